/- The walk, part 3: each Go function as a plain Lean function, and that its call answers as that function says. No condition. -/
import Derived.Test.YtfiamlhhhkiiaaaE
import Derived.Test.YtfiamlhhhkiiaaaNG
import Derived.Test.YtfiamlhhhkiiaaaNP
import Derived.Test.YtfiamlhhhkiiaaaNM
import Derived.Test.YtfiamlhhhkiiaaaNQ
import Derived.Test.YtfiamlhhhkiiaaaNI
import Derived.Test.YtfiamlhhhkiiaaaNX
import Derived.Test.YtfiamlhhhkiiaaaNY
import Derived.Test.YtfiamlhhhkiiaaaNC
import Derived.Test.YtfiamlhhhkiiaaaNF
import Derived.Test.YtfiamlhhhkiiaaaNW
import Derived.Test.YtfiamlhhhkiiaaaNK
import Derived.Test.YtfiamlhhhkiiaaaND
import Derived.Test.YtfiamlhhhkiiaaaA2
set_option linter.unusedVariables false
set_option linter.unusedSimpArgs false
set_option maxRecDepth 100000
set_option synthInstance.maxSize 100000
set_option synthInstance.maxHeartbeats 4000000
namespace Go.Proofs.Ytfiamlhhhkiiaaa.K
open Go Go.RowKit
noncomputable section
set_option maxHeartbeats 16000000
variable {w0 : World} {Z : Zm} {fs : List XObj} {w : World}
abbrev p3_7:=cd3 [1,1,1,1,1,1,1,0,1,0,0,1,0,0,1,0,1,0,0]
abbrev p3_8:=cd3 [1,1,1,1,1,1,1,0,1,0,0,1,0,0,1,0,1,0,1]
abbrev p3_9:=cd3 [1,1,1,1,1,1,1,0,1,0,0,1,0,0,1,0,1,0,1,0,0,1,0,1]
abbrev p3_10:=cd3 [1,1,1,1,1,1,1,0,1,0,0,1,0,0,1,0,1,0,1,0,1,1,1,1,1,0]
abbrev p3_11:=cd3 [1,1,1,1,1,1,1,0,1,0,0,1,0,0,1,0,1,0,1,0,0,0]
abbrev p3_18:=cd3 [1,1,1,1,1,1,1,0,1,0,0,1,0,0,1,0,1,0,1,0,1,0,1,0,0]
abbrev p3_19:=cd3 [1,1,1,1,1,1,1,0,1,0,0,1,0,0,1,0,1,0,1,0,1,1,0,0]
abbrev p3_22:=cd3 [1,1,1,1,1,1,1,0,1,0,0,1,0,0,1,0,1,0,1,0,1,1,1,0]
abbrev p3_23:=cd3 [1,1,1,1,1,1,1,0,1,0,0,1,0,0,1,0,1,0,1,0,1,1,1,1]
abbrev p3_24:=cd3 [1,1,1,1,1,1,1,0,1,0,0,1,0,0,1,0,1,0,1,0,1,1,1,1,0]
abbrev p3_30:=cd3 [1,1,1,1,1,1,1,0,1,0,0,1,0,0,1,0,1,0,1,0,1,1,0,1,0,1,1]
abbrev p3_31:=cd3 [1,1,1,1,1,1,1,0,1,0,0,1,0,0,1,0,1,0,1,0,1,1,0,1,0,1,0,1,0]
abbrev p3_32:=cd3 [1,1,1,1,1,1,1,0,1,0,0,1,0,0,1,0,1,0,1,0,1,1,0,1,0,1,1,0]
abbrev p3_35:=cd3 [1,1,1,1,1,1,1,0,1,0,0,1,0,0,1,0,1,0,1,0,1,1,0,1,0,1,1,1,0,1]
abbrev p3_36:=cd3 [1,1,1,1,1,1,1,0,1,0,0,1,0,0,1,0,1,0,1,0,1,0,1,0,0,0,0]
abbrev p3_39:=cd3 [1,1,1,1,1,1,1,0,1,0,0,1,0,0,1,0,1,0,1,0,1,0,1,0,0,1,0,0,0]
abbrev p3_43:=cd3 [1,1,1,1,1,1,1,0,1,0,0,1,0,0,1,0,1,0,1,0,1,0,1,0,0,1,0,0,1,0,1]
abbrev td63:List Item:=[.inBlock 3]
abbrev td64:List Item:=.code (cd3 [1,1,1,1,1,1,1,0,1,0,0,1,0,0,1,0,1,0,1,0,1])::td63
abbrev td65:List Item:=.code (cd3 [1,1,1,1,1,1,1,0,1,0,0,1,0,0,1,0,1,0,1,0,0,1])::td64
abbrev td66:List Item:=.code p3_9::td64
abbrev td67:List Item:=.inRegion (opsOf (cd3 [1,1,1,1,1,1,1,0,1,0,0,1,0,0,1,0,1,0,1,0,0,1,0,0])) [0]::td66
abbrev td68:List Item:=.code (cd3 [1,1,1,1,1,1,1,0,1,0,0,1,0,0,1,0,1,0,1,0,1,1])::td63
abbrev td69:List Item:=.inBlock 4::td68
abbrev td70:List Item:=.inLoop p3_18::td69
abbrev td71:List Item:=.code p3_18::td70
abbrev td72:List Item:=.code (cd3 [1,1,1,1,1,1,1,0,1,0,0,1,0,0,1,0,1,0,1,0,1,1,1])::td63
abbrev td73:List Item:=.code (cd3 [1,1,1,1,1,1,1,0,1,0,0,1,0,0,1,0,1,0,1,0,1,1,0,1])::td72
abbrev td74:List Item:=.code (cd3 [1,1,1,1,1,1,1,0,1,0,0,1,0,0,1,0,1,0,1,0,1,1,1,1,1])::td63
abbrev td75:List Item:=.code (cd3 [1,1,1,1,1,1,1,0,1,0,0,1,0,0,1,0,1,0,1,0,1,1,0,1,0,1,1,1])::td72
abbrev td76:List Item:=.code (cd3 [1,1,1,1,1,1,1,0,1,0,0,1,0,0,1,0,1,0,1,0,1,0,1,0,0,1])::td70
abbrev td77:List Item:=.code (cd3 [1,1,1,1,1,1,1,0,1,0,0,1,0,0,1,0,1,0,1,0,1,0,1,0,0,0,1])::td76
abbrev td78:List Item:=.code (cd3 [1,1,1,1,1,1,1,0,1,0,0,1,0,0,1,0,1,0,1,0,1,0,1,0,0,1,1])::td70
abbrev td79:List Item:=.inBlock 5::td78
def weirlaw14_ExploreStates_r.l0 (a2v9v_0 : List ByteArray) (a2v11vv_0m a2v11vv_2m : List (ByteArray × Int)) (a2v11vv_3 : Bool) (a2v13v a2v14v t419 : Int) : Option (Sum Unit (Int × Bool × Bool × (List (ByteArray × Int)) × (List (ByteArray × Int)) × Int)) :=
  (if (decide (t419 < (a2v9v_0.length : Int))) = true then (if (decide (t419 < (IntKind.i64.wrap (a2v14v + 50)))) = true then (if (a2v13v == 0) = true then (if 0 ≤ t419 ∧ t419 < (a2v9v_0.length : Int) then (if (decide (((mget a2v11vv_0m (gt a2v9v_0 t419)).getD (0 : Int)) > 0)) = true then some (.inr ((1,false,a2v11vv_3,a2v11vv_0m,a2v11vv_2m,a2v14v))) else (weirlaw14_ExploreStates_r.l0 a2v9v_0 a2v11vv_0m a2v11vv_2m a2v11vv_3 a2v13v a2v14v (IntKind.i64.wrap (t419 + 1)))) else none) else (weirlaw14_ExploreStates_r.l0 a2v9v_0 a2v11vv_0m a2v11vv_2m a2v11vv_3 a2v13v a2v14v (IntKind.i64.wrap (t419 + 1)))) else some (.inl ())) else some (.inl ()))
 partial_fixpoint
def weirlaw14_ExploreStates_r.f (a0 : ByteArray) (a1 a2v4v a2v5v : Int) (a2v6v : Bool) (a2v9v_0 : List ByteArray) (a2v9v_1 : List Int) (a2v9v_2 : List (List weirref14_Move)) (a2v9v_3 : List Bool) (a2v9v_4 : List api_Final) (a2v9v_5 : List Int) (a2v9v_6 : List api_Pick) (a2v9v_7 : Bool) (a2v9v_8m a2v11vv_0m : List (ByteArray × Int)) (a2v11vv_1m a2v11vv_2m : List (ByteArray × Int)) (a2v11vv_3 : Bool) (a2v12vc0v_0 : ByteArray) (a2v12vc0v_1c1v : weirlaw14_Net) (a2v13v a2v14v : Int) : Option (Int × Bool × Bool × (List (ByteArray × Int)) × (List (ByteArray × Int)) × Int) :=
  (if (decide (a2v14v ≥ (a2v9v_0.length : Int))) = true then some ((1,false,a2v11vv_3,a2v11vv_0m,a2v11vv_2m,a2v14v)) else (if 0 ≤ a2v14v ∧ a2v14v < (a2v9v_0.length : Int) then (if (!seq a0 (gt a2v9v_0 a2v14v)) = true then some ((1,false,a2v11vv_3,a2v11vv_0m,a2v11vv_2m,a2v14v)) else (if 0 ≤ a2v14v ∧ a2v14v < (a2v9v_1.length : Int) then (if (a1 != (gt a2v9v_1 a2v14v)) = true then some ((1,false,a2v11vv_3,a2v11vv_0m,a2v11vv_2m,a2v14v)) else (weirlaw14_ExploreStates_r.l0 a2v9v_0 a2v11vv_0m a2v11vv_2m a2v11vv_3 a2v13v a2v14v (IntKind.i64.wrap (a2v14v + 1)) >>= (fun | .inl () => (((if (a2v13v == 1) = true then (if (a2v14v == a2v5v) = true then some (true) else some (false)) else some (false)) : Option Bool) >>= (fun t114 => (((if t114 = true then (explore_States_1_1.f a2v6v a2v9v_0 a2v9v_1 a2v9v_2 a2v9v_3 a2v9v_4 a2v9v_5 a2v9v_6 a2v9v_7 a2v9v_8m 0 a2v12vc0v_0 a2v11vv_0m a2v11vv_1m a2v11vv_2m a2v11vv_3 a2v12vc0v_1c1v >>= (fun (t243,t244,t245,t246,t247,t248) => (if decide (t243 = 0) = true then (if (t245 != (a2v9v_0.length : Int)) = true then some (.inr ((1,false,t246,t247,t248,a2v14v))) else some (.inl (t244,t246,t247,t248))) else (if t243 = 1 then some (.inr ((1,t244,t246,t247,t248,a2v14v))) else none)))) else some (.inl (a2v6v,a2v11vv_3,a2v11vv_0m,a2v11vv_2m))) : Option (Sum (Bool × Bool × (List (ByteArray × Int)) × (List (ByteArray × Int))) (Int × Bool × Bool × (List (ByteArray × Int)) × (List (ByteArray × Int)) × Int))) >>= (fun | .inl (t123,t124,t125,t126) => (if (a2v13v == 0) = true then (if ((IntKind.i64.wrap (a2v14v + 1)) == a2v4v) = true then some ((2,t123,t124,t125,t126,(IntKind.i64.wrap (a2v14v + 1)))) else some ((0,t123,t124,t125,t126,(IntKind.i64.wrap (a2v14v + 1))))) else some ((0,t123,t124,t125,t126,(IntKind.i64.wrap (a2v14v + 1))))) | .inr e => some e)))) | .inr e => some e))) else none)) else none))
theorem weirlaw14_ExploreStates_r.ok (a0 : ByteArray) (a1 a2v4v a2v5v : Int) (a2v6v : Bool) (a2v9v_0 : List ByteArray) (a2v9v_1 : List Int) (a2v9v_2 : List (List weirref14_Move)) (a2v9v_3 : List Bool) (a2v9v_4 : List api_Final) (a2v9v_5 : List Int) (a2v9v_6 : List api_Pick) (a2v9v_7 : Bool) (a2v9v_8m a2v11vv_0m : List (ByteArray × Int)) (a2v11vv_1m a2v11vv_2m : List (ByteArray × Int)) (a2v11vv_3 : Bool) (a2v12vc0v_0 : ByteArray) (a2v12vc0v_1c1v : weirlaw14_Net) (a2v13v a2v14v : Int) (La2 Da2 : Nat) (la2 : List Value) (ba2v4 ba2v5 : Nat) (ba2v6 ba2v9 : Nat) (Aa2v9v_0 : Option Addr) (ca2v9v_0 : Nat) (Aa2v9v_1 : Option Addr) (ca2v9v_1 : Nat) (Aa2v9v_2 : Option Addr) (ca2v9v_2 : Nat) (Aa2v9v_3 : Option Addr) (ca2v9v_3 : Nat) (Aa2v9v_4 : Option Addr) (ca2v9v_4 : Nat) (Aa2v9v_5 : Option Addr) (ca2v9v_5 : Nat) (Aa2v9v_6 : Option Addr) (ca2v9v_6 ba2v9v_8 : Nat) (ba2v11 ba2v11v : Nat) (ba2v11vv_0 ba2v11vv_1 : Nat) (ba2v11vv_2 ba2v12 : Nat) (ba2v12vc0 ba2v12vc0v_1c0 ba2v12vc0v_1c1 : Nat) (Aa2v12vc0v_1c1v_0 : Option Addr) (ca2v12vc0v_1c1v_0 : Nat) (Aa2v12vc0v_1c1v_1 : Option Addr) (ca2v12vc0v_1c1v_1 : Nat) (Aa2v12vc0v_1c1v_2 : Option Addr) (ca2v12vc0v_1c1v_2 ba2v13 ba2v14 : Nat) (hS0 : St w0 Z (xlp La2 3 (fill (mk 165 [(4,.pointer (some ⟨ba2v4,0,none⟩)),(5,.pointer (some ⟨ba2v5,0,none⟩)),(6,.pointer (some ⟨ba2v6,0,none⟩)),(9,.pointer (some ⟨ba2v9,0,none⟩)),(11,.pointer (some ⟨ba2v11,0,none⟩)),(12,.pointer (some ⟨ba2v12,0,none⟩)),(13,.pointer (some ⟨ba2v13,0,none⟩)),(14,.pointer (some ⟨ba2v14,0,none⟩))]) la2) #[44,45] p3_7 p3_8 Da2 [p3_9,p3_10] 0::xblk ba2v4 3 ([.int .i64 a2v4v])::xblk ba2v5 3 ([.int .i64 a2v5v])::xblk ba2v6 4 ([.bool a2v6v])::xblk ba2v9 43 ([.slice Aa2v9v_0 a2v9v_0.length ca2v9v_0,.slice Aa2v9v_1 a2v9v_1.length ca2v9v_1,.slice Aa2v9v_2 a2v9v_2.length ca2v9v_2,.slice Aa2v9v_3 a2v9v_3.length ca2v9v_3,.slice Aa2v9v_4 a2v9v_4.length ca2v9v_4,.slice Aa2v9v_5 a2v9v_5.length ca2v9v_5,.slice Aa2v9v_6 a2v9v_6.length ca2v9v_6,.bool a2v9v_7,.map (some ba2v9v_8)])::xmap ba2v9v_8 (a2v9v_8m.map (kv Value.string (Value.int .i64)))::xblk ba2v11 33 ([.pointer (some ⟨ba2v11v,0,none⟩)])::xblk ba2v11v 49 ([.map (some ba2v11vv_0),.map (some ba2v11vv_1),.map (some ba2v11vv_2),.bool a2v11vv_3])::xmap ba2v11vv_0 (a2v11vv_0m.map (kv Value.string (Value.int .i64)))::xmap ba2v11vv_1 (a2v11vv_1m.map (kv Value.string (Value.int .i64)))::xmap ba2v11vv_2 (a2v11vv_2m.map (kv Value.string (Value.int .i64)))::xblk ba2v12 46 ([.func (.func 34) #[] #[.pointer (some ⟨ba2v12vc0,0,none⟩)]])::xblk ba2v12vc0 32 ([.string a2v12vc0v_0,.func (.func 28) #[] #[.pointer (some ⟨ba2v12vc0v_1c0,0,none⟩),.pointer (some ⟨ba2v12vc0v_1c1,0,none⟩)],.func (.func 31) #[] #[.pointer (some ⟨ba2v12vc0v_1c1,0,none⟩),.pointer (some ⟨ba2v12vc0v_1c0,0,none⟩)],.func (.func 32) #[] #[.pointer (some ⟨ba2v12vc0v_1c0,0,none⟩),.pointer (some ⟨ba2v12vc0v_1c1,0,none⟩)]])::xblk ba2v12vc0v_1c0 33 ([.pointer (some ⟨ba2v11v,0,none⟩)])::xblk ba2v12vc0v_1c1 26 ([.slice Aa2v12vc0v_1c1v_0 a2v12vc0v_1c1v.Next.length ca2v12vc0v_1c1v_0,.slice Aa2v12vc0v_1c1v_1 a2v12vc0v_1c1v.End.length ca2v12vc0v_1c1v_1,.slice Aa2v12vc0v_1c1v_2 a2v12vc0v_1c1v.Value.length ca2v12vc0v_1c1v_2,.int .i64 a2v12vc0v_1c1v.Start])::xblk ba2v13 3 ([.int .i64 a2v13v])::xblk ba2v14 3 ([.int .i64 a2v14v])::fs) w) (ha2v9v_0 : SlZ (flat encS) 1 Z Aa2v9v_0 ca2v9v_0 a2v9v_0) (ha2v9v_1 : SlZ (flat (encI .i64)) 1 Z Aa2v9v_1 ca2v9v_1 a2v9v_1) (ha2v9v_2 : SlZ (repL (flat enc_weirref14_Move) 4) 1 Z Aa2v9v_2 ca2v9v_2 a2v9v_2) (ha2v9v_3 : SlZ (flat encB) 1 Z Aa2v9v_3 ca2v9v_3 a2v9v_3) (ha2v9v_4 : SlZ (flat enc_api_Final) 49 Z Aa2v9v_4 ca2v9v_4 a2v9v_4) (ha2v9v_5 : SlZ (flat (encI .i64)) 1 Z Aa2v9v_5 ca2v9v_5 a2v9v_5) (ha2v9v_6 : SlZ (flat enc_api_Pick) 3 Z Aa2v9v_6 ca2v9v_6 a2v9v_6) (ha2v12vc0v_1c1v_0 : SlZ (repL (flat (encI .i64)) 1) 1 Z Aa2v12vc0v_1c1v_0 ca2v12vc0v_1c1v_0 a2v12vc0v_1c1v.Next) (ha2v12vc0v_1c1v_1 : SlZ (flat encB) 1 Z Aa2v12vc0v_1c1v_1 ca2v12vc0v_1c1v_1 a2v12vc0v_1c1v.End) (ha2v12vc0v_1c1v_2 : SlZ (flat (encI .i64)) 1 Z Aa2v12vc0v_1c1v_2 ca2v12vc0v_1c1v_2 a2v12vc0v_1c1v.Value) {q0 : Int} {q1 q2 : Bool} {q3 q4 : List (ByteArray × Int)} {q5 : Int} (hp0 : weirlaw14_ExploreStates_r.f a0 a1 a2v4v a2v5v a2v6v a2v9v_0 a2v9v_1 a2v9v_2 a2v9v_3 a2v9v_4 a2v9v_5 a2v9v_6 a2v9v_7 a2v9v_8m a2v11vv_0m a2v11vv_1m a2v11vv_2m a2v11vv_3 a2v12vc0v_0 a2v12vc0v_1c1v a2v13v a2v14v = some (q0,q1,q2,q3,q4,q5)) :
    Rounds Try.prog La2 3 (fill (mk 165 [(4,.pointer (some ⟨ba2v4,0,none⟩)),(5,.pointer (some ⟨ba2v5,0,none⟩)),(6,.pointer (some ⟨ba2v6,0,none⟩)),(9,.pointer (some ⟨ba2v9,0,none⟩)),(11,.pointer (some ⟨ba2v11,0,none⟩)),(12,.pointer (some ⟨ba2v12,0,none⟩)),(13,.pointer (some ⟨ba2v13,0,none⟩)),(14,.pointer (some ⟨ba2v14,0,none⟩)),(44,.string a0),(45,.int .i64 a1)]) la2).toArray p3_7 p3_8 w (fun e w' => e = .returned (.bool (decide (q0 = 0))) ∧ St w0 Z (xlp La2 3 (fill (mk 165 [(4,.pointer (some ⟨ba2v4,0,none⟩)),(5,.pointer (some ⟨ba2v5,0,none⟩)),(6,.pointer (some ⟨ba2v6,0,none⟩)),(9,.pointer (some ⟨ba2v9,0,none⟩)),(11,.pointer (some ⟨ba2v11,0,none⟩)),(12,.pointer (some ⟨ba2v12,0,none⟩)),(13,.pointer (some ⟨ba2v13,0,none⟩)),(14,.pointer (some ⟨ba2v14,0,none⟩))]) la2) #[44,45] p3_7 p3_8 Da2 [p3_9,p3_10] q0::xblk ba2v4 3 ([.int .i64 a2v4v])::xblk ba2v5 3 ([.int .i64 a2v5v])::xblk ba2v6 4 ([.bool q1])::xblk ba2v9 43 ([.slice Aa2v9v_0 a2v9v_0.length ca2v9v_0,.slice Aa2v9v_1 a2v9v_1.length ca2v9v_1,.slice Aa2v9v_2 a2v9v_2.length ca2v9v_2,.slice Aa2v9v_3 a2v9v_3.length ca2v9v_3,.slice Aa2v9v_4 a2v9v_4.length ca2v9v_4,.slice Aa2v9v_5 a2v9v_5.length ca2v9v_5,.slice Aa2v9v_6 a2v9v_6.length ca2v9v_6,.bool a2v9v_7,.map (some ba2v9v_8)])::xmap ba2v9v_8 (a2v9v_8m.map (kv Value.string (Value.int .i64)))::xblk ba2v11 33 ([.pointer (some ⟨ba2v11v,0,none⟩)])::xblk ba2v11v 49 ([.map (some ba2v11vv_0),.map (some ba2v11vv_1),.map (some ba2v11vv_2),.bool q2])::xmap ba2v11vv_0 (q3.map (kv Value.string (Value.int .i64)))::xmap ba2v11vv_1 (a2v11vv_1m.map (kv Value.string (Value.int .i64)))::xmap ba2v11vv_2 (q4.map (kv Value.string (Value.int .i64)))::xblk ba2v12 46 ([.func (.func 34) #[] #[.pointer (some ⟨ba2v12vc0,0,none⟩)]])::xblk ba2v12vc0 32 ([.string a2v12vc0v_0,.func (.func 28) #[] #[.pointer (some ⟨ba2v12vc0v_1c0,0,none⟩),.pointer (some ⟨ba2v12vc0v_1c1,0,none⟩)],.func (.func 31) #[] #[.pointer (some ⟨ba2v12vc0v_1c1,0,none⟩),.pointer (some ⟨ba2v12vc0v_1c0,0,none⟩)],.func (.func 32) #[] #[.pointer (some ⟨ba2v12vc0v_1c0,0,none⟩),.pointer (some ⟨ba2v12vc0v_1c1,0,none⟩)]])::xblk ba2v12vc0v_1c0 33 ([.pointer (some ⟨ba2v11v,0,none⟩)])::xblk ba2v12vc0v_1c1 26 ([.slice Aa2v12vc0v_1c1v_0 a2v12vc0v_1c1v.Next.length ca2v12vc0v_1c1v_0,.slice Aa2v12vc0v_1c1v_1 a2v12vc0v_1c1v.End.length ca2v12vc0v_1c1v_1,.slice Aa2v12vc0v_1c1v_2 a2v12vc0v_1c1v.Value.length ca2v12vc0v_1c1v_2,.int .i64 a2v12vc0v_1c1v.Start])::xblk ba2v13 3 ([.int .i64 a2v13v])::xblk ba2v14 3 ([.int .i64 q5])::fs) w'):=by
  refine rounds_abs ?_; intro R hR
  unfold weirlaw14_ExploreStates_r.f at hp0
  refine rounds_of_runs ?_
  refine sR 7 [.beginRound,.code p3_8] ?_
  refine r_begin hS0 ?_
  intro w1 hS2
  refine sR 4 (iR p3_11 0 23::td65) ?_
  refine rL1 3 (.tmp 14) 0 (hS2.blk 16 rfl) ?_
  refine sR 1 (iR p3_11 2 21::td65) ?_
  refine rL1 36 (.tmp 47) 0 (hS2.blk 4 rfl) ?_
  refine sI 2 (iR p3_11 5 18::td65) 50 hp0 (fun hp5 => ?_) fun hp31 => ?_
  ·refine sR 22 td67 ?_
   have hS6:=hS2.pick3
   refine rS 4 (.tmp 6) (.const (.bool false)) 0 (.bool false) [.bool false] [.bool false] hS6 ?_
   intro w7 hS8
   refine sR 1 td66 ?_
   refine r_isret (c:=p3_9) (by kernel_rfl) ?_
   have hS9:=hS8.pick1
   refine r_rret hS9 [p3_9,p3_10] 0 (by kernel_rfl) ?_
   intro w10 hS11
   have hS12 : St w0 Z (xlp La2 3 (fill (mk 165 [(4,.pointer (some ⟨ba2v4,0,none⟩)),(5,.pointer (some ⟨ba2v5,0,none⟩)),(6,.pointer (some ⟨ba2v6,0,none⟩)),(9,.pointer (some ⟨ba2v9,0,none⟩)),(11,.pointer (some ⟨ba2v11,0,none⟩)),(12,.pointer (some ⟨ba2v12,0,none⟩)),(13,.pointer (some ⟨ba2v13,0,none⟩)),(14,.pointer (some ⟨ba2v14,0,none⟩))]) la2) #[44,45] p3_7 p3_8 Da2 [p3_9,p3_10] 1::xblk ba2v6 4 ([.bool false])::xblk ba2v4 3 ([.int .i64 a2v4v])::xblk ba2v5 3 ([.int .i64 a2v5v])::xblk ba2v9 43 ([.slice Aa2v9v_0 a2v9v_0.length ca2v9v_0,.slice Aa2v9v_1 a2v9v_1.length ca2v9v_1,.slice Aa2v9v_2 a2v9v_2.length ca2v9v_2,.slice Aa2v9v_3 a2v9v_3.length ca2v9v_3,.slice Aa2v9v_4 a2v9v_4.length ca2v9v_4,.slice Aa2v9v_5 a2v9v_5.length ca2v9v_5,.slice Aa2v9v_6 a2v9v_6.length ca2v9v_6,.bool a2v9v_7,.map (some ba2v9v_8)])::xmap ba2v9v_8 (a2v9v_8m.map (kv Value.string (Value.int .i64)))::xblk ba2v11 33 ([.pointer (some ⟨ba2v11v,0,none⟩)])::xblk ba2v11v 49 ([.map (some ba2v11vv_0),.map (some ba2v11vv_1),.map (some ba2v11vv_2),.bool a2v11vv_3])::xmap ba2v11vv_0 (a2v11vv_0m.map (kv Value.string (Value.int .i64)))::xmap ba2v11vv_1 (a2v11vv_1m.map (kv Value.string (Value.int .i64)))::xmap ba2v11vv_2 (a2v11vv_2m.map (kv Value.string (Value.int .i64)))::xblk ba2v12 46 ([.func (.func 34) #[] #[.pointer (some ⟨ba2v12vc0,0,none⟩)]])::xblk ba2v12vc0 32 ([.string a2v12vc0v_0,.func (.func 28) #[] #[.pointer (some ⟨ba2v12vc0v_1c0,0,none⟩),.pointer (some ⟨ba2v12vc0v_1c1,0,none⟩)],.func (.func 31) #[] #[.pointer (some ⟨ba2v12vc0v_1c1,0,none⟩),.pointer (some ⟨ba2v12vc0v_1c0,0,none⟩)],.func (.func 32) #[] #[.pointer (some ⟨ba2v12vc0v_1c0,0,none⟩),.pointer (some ⟨ba2v12vc0v_1c1,0,none⟩)]])::xblk ba2v12vc0v_1c0 33 ([.pointer (some ⟨ba2v11v,0,none⟩)])::xblk ba2v12vc0v_1c1 26 ([.slice Aa2v12vc0v_1c1v_0 a2v12vc0v_1c1v.Next.length ca2v12vc0v_1c1v_0,.slice Aa2v12vc0v_1c1v_1 a2v12vc0v_1c1v.End.length ca2v12vc0v_1c1v_1,.slice Aa2v12vc0v_1c1v_2 a2v12vc0v_1c1v.Value.length ca2v12vc0v_1c1v_2,.int .i64 a2v12vc0v_1c1v.Start])::xblk ba2v13 3 ([.int .i64 a2v13v])::xblk ba2v14 3 ([.int .i64 a2v14v])::fs) w10:=hS11
   have hS13:=hS12.pick16
   have hS14:=hS13.pick16
   have hS15:=hS14.pick16
   have hS16:=hS15.pick16
   have hS17:=hS16.pick16
   have hS18:=hS17.pick16
   have hS19:=hS18.pick16
   have hS20:=hS19.pick16
   have hS21:=hS20.pick16
   have hS22:=hS21.pick16
   have hS23:=hS22.pick16
   have hS24:=hS23.pick16
   have hS25:=hS24.pick16
   have hS26:=hS25.pick14
   have hS27:=hS26.pick16
   have hS28:=hS27.pick16
   have hS29:=hS28.pick16
   cases Option.some.inj hp5
   exact hR _ _ ⟨rfl,hS29⟩
  refine sR 3 (iR p3_11 8 15::td65) ?_
  refine rL1 36 (.tmp 53) 0 (hS2.blk 4 rfl) ?_
  refine rL1 3 (.tmp 14) 0 (hS2.blk 16 rfl) ?_
  obtain ⟨g32,hp33⟩:=ite_some hp31
  obtain ⟨b34,p35,hA36,hc37⟩:=ha2v9v_0.atF g32.1 g32.2
  refine r_indexAddr (c:=p3_11) (i:=10) (d:=(some 56)) (ty:=0) (t:=36) (e:=9) (n:=a2v9v_0.length) (cp:=ca2v9v_0) (sz:=1) (kk:=.i64) (x:=(.tmp 54)) (y:=(.tmp 55)) (b:=b34) (o':=p35) (j:=a2v14v) (by kernel_rfl) (by kernel_rfl) (slv (by kernel_rfl) hA36) (by kernel_rfl) (by kernel_rfl) (by kernel_rfl) g32.1 g32.2 ?_
  refine rL1 9 (.tmp 56) 0 (hc37.cells hS2) ?_
  refine sI 1 (iR p3_11 13 10::td65) 58 hp33 (fun hp40 => ?_) fun hp66 => ?_
  ·refine sR 14 td67 ?_
   have hS41:=hS2.pick3
   refine rS 4 (.tmp 6) (.const (.bool false)) 0 (.bool false) [.bool false] [.bool false] hS41 ?_
   intro w42 hS43
   refine sR 1 td66 ?_
   refine r_isret (c:=p3_9) (by kernel_rfl) ?_
   have hS44:=hS43.pick1
   refine r_rret hS44 [p3_9,p3_10] 0 (by kernel_rfl) ?_
   intro w45 hS46
   have hS47 : St w0 Z (xlp La2 3 (fill (mk 165 [(4,.pointer (some ⟨ba2v4,0,none⟩)),(5,.pointer (some ⟨ba2v5,0,none⟩)),(6,.pointer (some ⟨ba2v6,0,none⟩)),(9,.pointer (some ⟨ba2v9,0,none⟩)),(11,.pointer (some ⟨ba2v11,0,none⟩)),(12,.pointer (some ⟨ba2v12,0,none⟩)),(13,.pointer (some ⟨ba2v13,0,none⟩)),(14,.pointer (some ⟨ba2v14,0,none⟩))]) la2) #[44,45] p3_7 p3_8 Da2 [p3_9,p3_10] 1::xblk ba2v6 4 ([.bool false])::xblk ba2v4 3 ([.int .i64 a2v4v])::xblk ba2v5 3 ([.int .i64 a2v5v])::xblk ba2v9 43 ([.slice Aa2v9v_0 a2v9v_0.length ca2v9v_0,.slice Aa2v9v_1 a2v9v_1.length ca2v9v_1,.slice Aa2v9v_2 a2v9v_2.length ca2v9v_2,.slice Aa2v9v_3 a2v9v_3.length ca2v9v_3,.slice Aa2v9v_4 a2v9v_4.length ca2v9v_4,.slice Aa2v9v_5 a2v9v_5.length ca2v9v_5,.slice Aa2v9v_6 a2v9v_6.length ca2v9v_6,.bool a2v9v_7,.map (some ba2v9v_8)])::xmap ba2v9v_8 (a2v9v_8m.map (kv Value.string (Value.int .i64)))::xblk ba2v11 33 ([.pointer (some ⟨ba2v11v,0,none⟩)])::xblk ba2v11v 49 ([.map (some ba2v11vv_0),.map (some ba2v11vv_1),.map (some ba2v11vv_2),.bool a2v11vv_3])::xmap ba2v11vv_0 (a2v11vv_0m.map (kv Value.string (Value.int .i64)))::xmap ba2v11vv_1 (a2v11vv_1m.map (kv Value.string (Value.int .i64)))::xmap ba2v11vv_2 (a2v11vv_2m.map (kv Value.string (Value.int .i64)))::xblk ba2v12 46 ([.func (.func 34) #[] #[.pointer (some ⟨ba2v12vc0,0,none⟩)]])::xblk ba2v12vc0 32 ([.string a2v12vc0v_0,.func (.func 28) #[] #[.pointer (some ⟨ba2v12vc0v_1c0,0,none⟩),.pointer (some ⟨ba2v12vc0v_1c1,0,none⟩)],.func (.func 31) #[] #[.pointer (some ⟨ba2v12vc0v_1c1,0,none⟩),.pointer (some ⟨ba2v12vc0v_1c0,0,none⟩)],.func (.func 32) #[] #[.pointer (some ⟨ba2v12vc0v_1c0,0,none⟩),.pointer (some ⟨ba2v12vc0v_1c1,0,none⟩)]])::xblk ba2v12vc0v_1c0 33 ([.pointer (some ⟨ba2v11v,0,none⟩)])::xblk ba2v12vc0v_1c1 26 ([.slice Aa2v12vc0v_1c1v_0 a2v12vc0v_1c1v.Next.length ca2v12vc0v_1c1v_0,.slice Aa2v12vc0v_1c1v_1 a2v12vc0v_1c1v.End.length ca2v12vc0v_1c1v_1,.slice Aa2v12vc0v_1c1v_2 a2v12vc0v_1c1v.Value.length ca2v12vc0v_1c1v_2,.int .i64 a2v12vc0v_1c1v.Start])::xblk ba2v13 3 ([.int .i64 a2v13v])::xblk ba2v14 3 ([.int .i64 a2v14v])::fs) w45:=hS46
   have hS48:=hS47.pick16
   have hS49:=hS48.pick16
   have hS50:=hS49.pick16
   have hS51:=hS50.pick16
   have hS52:=hS51.pick16
   have hS53:=hS52.pick16
   have hS54:=hS53.pick16
   have hS55:=hS54.pick16
   have hS56:=hS55.pick16
   have hS57:=hS56.pick16
   have hS58:=hS57.pick16
   have hS59:=hS58.pick16
   have hS60:=hS59.pick16
   have hS61:=hS60.pick14
   have hS62:=hS61.pick16
   have hS63:=hS62.pick16
   have hS64:=hS63.pick16
   cases Option.some.inj hp40
   exact hR _ _ ⟨rfl,hS64⟩
  refine sR 4 (iR p3_11 17 6::td65) ?_
  refine rL1 37 (.tmp 62) 1 (hS2.blk 4 rfl) ?_
  refine rL1 3 (.tmp 14) 0 (hS2.blk 16 rfl) ?_
  obtain ⟨g67,hp68⟩:=ite_some hp66
  obtain ⟨b69,p70,hA71,hc72⟩:=ha2v9v_1.atF g67.1 g67.2
  refine r_indexAddr (c:=p3_11) (i:=19) (d:=(some 65)) (ty:=0) (t:=37) (e:=3) (n:=a2v9v_1.length) (cp:=ca2v9v_1) (sz:=1) (kk:=.i64) (x:=(.tmp 63)) (y:=(.tmp 64)) (b:=b69) (o':=p70) (j:=a2v14v) (by kernel_rfl) (by kernel_rfl) (slv (by kernel_rfl) hA71) (by kernel_rfl) (by kernel_rfl) (by kernel_rfl) g67.1 g67.2 ?_
  refine rL1 3 (.tmp 65) 0 (hc72.cells hS2) ?_
  refine sI 1 (.inRegion (opsOf p3_11) [22]::td65) 67 hp68 (fun hp75 => ?_) fun hp101 => ?_
  ·refine sR 5 td67 ?_
   have hS76:=hS2.pick3
   refine rS 4 (.tmp 6) (.const (.bool false)) 0 (.bool false) [.bool false] [.bool false] hS76 ?_
   intro w77 hS78
   refine sR 1 td66 ?_
   refine r_isret (c:=p3_9) (by kernel_rfl) ?_
   have hS79:=hS78.pick1
   refine r_rret hS79 [p3_9,p3_10] 0 (by kernel_rfl) ?_
   intro w80 hS81
   have hS82 : St w0 Z (xlp La2 3 (fill (mk 165 [(4,.pointer (some ⟨ba2v4,0,none⟩)),(5,.pointer (some ⟨ba2v5,0,none⟩)),(6,.pointer (some ⟨ba2v6,0,none⟩)),(9,.pointer (some ⟨ba2v9,0,none⟩)),(11,.pointer (some ⟨ba2v11,0,none⟩)),(12,.pointer (some ⟨ba2v12,0,none⟩)),(13,.pointer (some ⟨ba2v13,0,none⟩)),(14,.pointer (some ⟨ba2v14,0,none⟩))]) la2) #[44,45] p3_7 p3_8 Da2 [p3_9,p3_10] 1::xblk ba2v6 4 ([.bool false])::xblk ba2v4 3 ([.int .i64 a2v4v])::xblk ba2v5 3 ([.int .i64 a2v5v])::xblk ba2v9 43 ([.slice Aa2v9v_0 a2v9v_0.length ca2v9v_0,.slice Aa2v9v_1 a2v9v_1.length ca2v9v_1,.slice Aa2v9v_2 a2v9v_2.length ca2v9v_2,.slice Aa2v9v_3 a2v9v_3.length ca2v9v_3,.slice Aa2v9v_4 a2v9v_4.length ca2v9v_4,.slice Aa2v9v_5 a2v9v_5.length ca2v9v_5,.slice Aa2v9v_6 a2v9v_6.length ca2v9v_6,.bool a2v9v_7,.map (some ba2v9v_8)])::xmap ba2v9v_8 (a2v9v_8m.map (kv Value.string (Value.int .i64)))::xblk ba2v11 33 ([.pointer (some ⟨ba2v11v,0,none⟩)])::xblk ba2v11v 49 ([.map (some ba2v11vv_0),.map (some ba2v11vv_1),.map (some ba2v11vv_2),.bool a2v11vv_3])::xmap ba2v11vv_0 (a2v11vv_0m.map (kv Value.string (Value.int .i64)))::xmap ba2v11vv_1 (a2v11vv_1m.map (kv Value.string (Value.int .i64)))::xmap ba2v11vv_2 (a2v11vv_2m.map (kv Value.string (Value.int .i64)))::xblk ba2v12 46 ([.func (.func 34) #[] #[.pointer (some ⟨ba2v12vc0,0,none⟩)]])::xblk ba2v12vc0 32 ([.string a2v12vc0v_0,.func (.func 28) #[] #[.pointer (some ⟨ba2v12vc0v_1c0,0,none⟩),.pointer (some ⟨ba2v12vc0v_1c1,0,none⟩)],.func (.func 31) #[] #[.pointer (some ⟨ba2v12vc0v_1c1,0,none⟩),.pointer (some ⟨ba2v12vc0v_1c0,0,none⟩)],.func (.func 32) #[] #[.pointer (some ⟨ba2v12vc0v_1c0,0,none⟩),.pointer (some ⟨ba2v12vc0v_1c1,0,none⟩)]])::xblk ba2v12vc0v_1c0 33 ([.pointer (some ⟨ba2v11v,0,none⟩)])::xblk ba2v12vc0v_1c1 26 ([.slice Aa2v12vc0v_1c1v_0 a2v12vc0v_1c1v.Next.length ca2v12vc0v_1c1v_0,.slice Aa2v12vc0v_1c1v_1 a2v12vc0v_1c1v.End.length ca2v12vc0v_1c1v_1,.slice Aa2v12vc0v_1c1v_2 a2v12vc0v_1c1v.Value.length ca2v12vc0v_1c1v_2,.int .i64 a2v12vc0v_1c1v.Start])::xblk ba2v13 3 ([.int .i64 a2v13v])::xblk ba2v14 3 ([.int .i64 a2v14v])::fs) w80:=hS81
   have hS83:=hS82.pick16
   have hS84:=hS83.pick16
   have hS85:=hS84.pick16
   have hS86:=hS85.pick16
   have hS87:=hS86.pick16
   have hS88:=hS87.pick16
   have hS89:=hS88.pick16
   have hS90:=hS89.pick16
   have hS91:=hS90.pick16
   have hS92:=hS91.pick16
   have hS93:=hS92.pick16
   have hS94:=hS93.pick16
   have hS95:=hS94.pick16
   have hS96:=hS95.pick14
   have hS97:=hS96.pick16
   have hS98:=hS97.pick16
   have hS99:=hS98.pick16
   cases Option.some.inj hp75
   exact hR _ _ ⟨rfl,hS99⟩
  refine sR 7 (.inRegion (opsOf (cd3 [1,1,1,1,1,1,1,0,1,0,0,1,0,0,1,0,1,0,1,0,1,0,0])) [0,1,2]::.code (cd3 [1,1,1,1,1,1,1,0,1,0,0,1,0,0,1,0,1,0,1,0,1,0,1])::td68) ?_
  refine rL1 3 (.tmp 14) 0 (hS2.blk 16 rfl) ?_
  refine sR 5 td71 ?_
  obtain ⟨v102,hv103,hp104⟩:=bind_some' hp101
  have hq107 : ∀ x,Sum.inr x = v102 → x = (q0,q1,q2,q3,q4,q5):=by intro x hx; subst hx; simpa using hp104
  have J108 : ∀ (he110 : Sum.inl () = v102) (l109 : List Value) (w105 : World) (hS106 : St w0 Z (xblk ba2v4 3 ([.int .i64 a2v4v])::xblk ba2v5 3 ([.int .i64 a2v5v])::xblk ba2v6 4 ([.bool a2v6v])::xblk ba2v9 43 ([.slice Aa2v9v_0 a2v9v_0.length ca2v9v_0,.slice Aa2v9v_1 a2v9v_1.length ca2v9v_1,.slice Aa2v9v_2 a2v9v_2.length ca2v9v_2,.slice Aa2v9v_3 a2v9v_3.length ca2v9v_3,.slice Aa2v9v_4 a2v9v_4.length ca2v9v_4,.slice Aa2v9v_5 a2v9v_5.length ca2v9v_5,.slice Aa2v9v_6 a2v9v_6.length ca2v9v_6,.bool a2v9v_7,.map (some ba2v9v_8)])::xmap ba2v9v_8 (a2v9v_8m.map (kv Value.string (Value.int .i64)))::xblk ba2v12 46 ([.func (.func 34) #[] #[.pointer (some ⟨ba2v12vc0,0,none⟩)]])::xblk ba2v12vc0 32 ([.string a2v12vc0v_0,.func (.func 28) #[] #[.pointer (some ⟨ba2v12vc0v_1c0,0,none⟩),.pointer (some ⟨ba2v12vc0v_1c1,0,none⟩)],.func (.func 31) #[] #[.pointer (some ⟨ba2v12vc0v_1c1,0,none⟩),.pointer (some ⟨ba2v12vc0v_1c0,0,none⟩)],.func (.func 32) #[] #[.pointer (some ⟨ba2v12vc0v_1c0,0,none⟩),.pointer (some ⟨ba2v12vc0v_1c1,0,none⟩)]])::xblk ba2v12vc0v_1c0 33 ([.pointer (some ⟨ba2v11v,0,none⟩)])::xblk ba2v11v 49 ([.map (some ba2v11vv_0),.map (some ba2v11vv_1),.map (some ba2v11vv_2),.bool a2v11vv_3])::xmap ba2v11vv_0 (a2v11vv_0m.map (kv Value.string (Value.int .i64)))::xmap ba2v11vv_1 (a2v11vv_1m.map (kv Value.string (Value.int .i64)))::xmap ba2v11vv_2 (a2v11vv_2m.map (kv Value.string (Value.int .i64)))::xblk ba2v12vc0v_1c1 26 ([.slice Aa2v12vc0v_1c1v_0 a2v12vc0v_1c1v.Next.length ca2v12vc0v_1c1v_0,.slice Aa2v12vc0v_1c1v_1 a2v12vc0v_1c1v.End.length ca2v12vc0v_1c1v_1,.slice Aa2v12vc0v_1c1v_2 a2v12vc0v_1c1v.Value.length ca2v12vc0v_1c1v_2,.int .i64 a2v12vc0v_1c1v.Start])::xblk ba2v13 3 ([.int .i64 a2v13v])::xblk ba2v14 3 ([.int .i64 a2v14v])::xlb La2 3 (fill (mk 165 [(4,.pointer (some ⟨ba2v4,0,none⟩)),(5,.pointer (some ⟨ba2v5,0,none⟩)),(6,.pointer (some ⟨ba2v6,0,none⟩)),(9,.pointer (some ⟨ba2v9,0,none⟩)),(11,.pointer (some ⟨ba2v11,0,none⟩)),(12,.pointer (some ⟨ba2v12,0,none⟩)),(13,.pointer (some ⟨ba2v13,0,none⟩)),(14,.pointer (some ⟨ba2v14,0,none⟩))]) la2) #[44,45] p3_7 p3_8 Da2::xblk ba2v11 33 ([.pointer (some ⟨ba2v11v,0,none⟩)])::fs) w105),Runs Try.prog ⟨3,[],.rd La2⟩ td68 (fill (mk 165 [(4,.pointer (some ⟨ba2v4,0,none⟩)),(5,.pointer (some ⟨ba2v5,0,none⟩)),(6,.pointer (some ⟨ba2v6,0,none⟩)),(9,.pointer (some ⟨ba2v9,0,none⟩)),(12,.pointer (some ⟨ba2v12,0,none⟩)),(13,.pointer (some ⟨ba2v13,0,none⟩)),(14,.pointer (some ⟨ba2v14,0,none⟩))]) l109) w105 R:=by
   intro he110 l109 w105 hS106
   subst he110
   try dsimp only at hp104
   refine sR 2 (.code p3_19::td73) ?_
   obtain ⟨v111,hv112,hp113⟩:=bind_some' hp104
   have J117 : ∀ (t114 : Bool) (he119 : t114 = v111) (l118 : List Value) (w115 : World) (hS116 : St w0 Z (xblk ba2v4 3 ([.int .i64 a2v4v])::xblk ba2v6 4 ([.bool a2v6v])::xblk ba2v9 43 ([.slice Aa2v9v_0 a2v9v_0.length ca2v9v_0,.slice Aa2v9v_1 a2v9v_1.length ca2v9v_1,.slice Aa2v9v_2 a2v9v_2.length ca2v9v_2,.slice Aa2v9v_3 a2v9v_3.length ca2v9v_3,.slice Aa2v9v_4 a2v9v_4.length ca2v9v_4,.slice Aa2v9v_5 a2v9v_5.length ca2v9v_5,.slice Aa2v9v_6 a2v9v_6.length ca2v9v_6,.bool a2v9v_7,.map (some ba2v9v_8)])::xmap ba2v9v_8 (a2v9v_8m.map (kv Value.string (Value.int .i64)))::xblk ba2v12 46 ([.func (.func 34) #[] #[.pointer (some ⟨ba2v12vc0,0,none⟩)]])::xblk ba2v12vc0 32 ([.string a2v12vc0v_0,.func (.func 28) #[] #[.pointer (some ⟨ba2v12vc0v_1c0,0,none⟩),.pointer (some ⟨ba2v12vc0v_1c1,0,none⟩)],.func (.func 31) #[] #[.pointer (some ⟨ba2v12vc0v_1c1,0,none⟩),.pointer (some ⟨ba2v12vc0v_1c0,0,none⟩)],.func (.func 32) #[] #[.pointer (some ⟨ba2v12vc0v_1c0,0,none⟩),.pointer (some ⟨ba2v12vc0v_1c1,0,none⟩)]])::xblk ba2v12vc0v_1c0 33 ([.pointer (some ⟨ba2v11v,0,none⟩)])::xblk ba2v11v 49 ([.map (some ba2v11vv_0),.map (some ba2v11vv_1),.map (some ba2v11vv_2),.bool a2v11vv_3])::xmap ba2v11vv_0 (a2v11vv_0m.map (kv Value.string (Value.int .i64)))::xmap ba2v11vv_1 (a2v11vv_1m.map (kv Value.string (Value.int .i64)))::xmap ba2v11vv_2 (a2v11vv_2m.map (kv Value.string (Value.int .i64)))::xblk ba2v12vc0v_1c1 26 ([.slice Aa2v12vc0v_1c1v_0 a2v12vc0v_1c1v.Next.length ca2v12vc0v_1c1v_0,.slice Aa2v12vc0v_1c1v_1 a2v12vc0v_1c1v.End.length ca2v12vc0v_1c1v_1,.slice Aa2v12vc0v_1c1v_2 a2v12vc0v_1c1v.Value.length ca2v12vc0v_1c1v_2,.int .i64 a2v12vc0v_1c1v.Start])::xblk ba2v13 3 ([.int .i64 a2v13v])::xblk ba2v14 3 ([.int .i64 a2v14v])::xlb La2 3 (fill (mk 165 [(4,.pointer (some ⟨ba2v4,0,none⟩)),(5,.pointer (some ⟨ba2v5,0,none⟩)),(6,.pointer (some ⟨ba2v6,0,none⟩)),(9,.pointer (some ⟨ba2v9,0,none⟩)),(11,.pointer (some ⟨ba2v11,0,none⟩)),(12,.pointer (some ⟨ba2v12,0,none⟩)),(13,.pointer (some ⟨ba2v13,0,none⟩)),(14,.pointer (some ⟨ba2v14,0,none⟩))]) la2) #[44,45] p3_7 p3_8 Da2::xblk ba2v5 3 ([.int .i64 a2v5v])::xblk ba2v11 33 ([.pointer (some ⟨ba2v11v,0,none⟩)])::fs) w115),Runs Try.prog ⟨3,[],.rd La2⟩ td73 (fill (mk 165 [(4,.pointer (some ⟨ba2v4,0,none⟩)),(6,.pointer (some ⟨ba2v6,0,none⟩)),(9,.pointer (some ⟨ba2v9,0,none⟩)),(12,.pointer (some ⟨ba2v12,0,none⟩)),(13,.pointer (some ⟨ba2v13,0,none⟩)),(14,.pointer (some ⟨ba2v14,0,none⟩)),(105,.bool t114)]) l118) w115 R:=by
    intro t114 he119 l118 w115 hS116
    subst he119
    try dsimp only at hp113
    obtain ⟨v120,hv121,hp122⟩:=bind_some' hp113
    have hq129 : ∀ x,Sum.inr x = v120 → x = (q0,q1,q2,q3,q4,q5):=by intro x hx; subst hx; simpa using hp122
    have J130 : ∀ (t123 t124 : Bool) (t125 t126 : List (ByteArray × Int)) (he132 : Sum.inl (t123,t124,t125,t126) = v120) (l131 : List Value) (w127 : World) (hS128 : St w0 Z (xblk ba2v4 3 ([.int .i64 a2v4v])::xblk ba2v6 4 ([.bool t123])::xblk ba2v13 3 ([.int .i64 a2v13v])::xblk ba2v14 3 ([.int .i64 a2v14v])::xlb La2 3 (fill (mk 165 [(4,.pointer (some ⟨ba2v4,0,none⟩)),(5,.pointer (some ⟨ba2v5,0,none⟩)),(6,.pointer (some ⟨ba2v6,0,none⟩)),(9,.pointer (some ⟨ba2v9,0,none⟩)),(11,.pointer (some ⟨ba2v11,0,none⟩)),(12,.pointer (some ⟨ba2v12,0,none⟩)),(13,.pointer (some ⟨ba2v13,0,none⟩)),(14,.pointer (some ⟨ba2v14,0,none⟩))]) la2) #[44,45] p3_7 p3_8 Da2::xblk ba2v5 3 ([.int .i64 a2v5v])::xblk ba2v9 43 ([.slice Aa2v9v_0 a2v9v_0.length ca2v9v_0,.slice Aa2v9v_1 a2v9v_1.length ca2v9v_1,.slice Aa2v9v_2 a2v9v_2.length ca2v9v_2,.slice Aa2v9v_3 a2v9v_3.length ca2v9v_3,.slice Aa2v9v_4 a2v9v_4.length ca2v9v_4,.slice Aa2v9v_5 a2v9v_5.length ca2v9v_5,.slice Aa2v9v_6 a2v9v_6.length ca2v9v_6,.bool a2v9v_7,.map (some ba2v9v_8)])::xmap ba2v9v_8 (a2v9v_8m.map (kv Value.string (Value.int .i64)))::xblk ba2v11 33 ([.pointer (some ⟨ba2v11v,0,none⟩)])::xblk ba2v11v 49 ([.map (some ba2v11vv_0),.map (some ba2v11vv_1),.map (some ba2v11vv_2),.bool t124])::xmap ba2v11vv_0 (t125.map (kv Value.string (Value.int .i64)))::xmap ba2v11vv_1 (a2v11vv_1m.map (kv Value.string (Value.int .i64)))::xmap ba2v11vv_2 (t126.map (kv Value.string (Value.int .i64)))::xblk ba2v12 46 ([.func (.func 34) #[] #[.pointer (some ⟨ba2v12vc0,0,none⟩)]])::xblk ba2v12vc0 32 ([.string a2v12vc0v_0,.func (.func 28) #[] #[.pointer (some ⟨ba2v12vc0v_1c0,0,none⟩),.pointer (some ⟨ba2v12vc0v_1c1,0,none⟩)],.func (.func 31) #[] #[.pointer (some ⟨ba2v12vc0v_1c1,0,none⟩),.pointer (some ⟨ba2v12vc0v_1c0,0,none⟩)],.func (.func 32) #[] #[.pointer (some ⟨ba2v12vc0v_1c0,0,none⟩),.pointer (some ⟨ba2v12vc0v_1c1,0,none⟩)]])::xblk ba2v12vc0v_1c0 33 ([.pointer (some ⟨ba2v11v,0,none⟩)])::xblk ba2v12vc0v_1c1 26 ([.slice Aa2v12vc0v_1c1v_0 a2v12vc0v_1c1v.Next.length ca2v12vc0v_1c1v_0,.slice Aa2v12vc0v_1c1v_1 a2v12vc0v_1c1v.End.length ca2v12vc0v_1c1v_1,.slice Aa2v12vc0v_1c1v_2 a2v12vc0v_1c1v.Value.length ca2v12vc0v_1c1v_2,.int .i64 a2v12vc0v_1c1v.Start])::fs) w127),Runs Try.prog ⟨3,[],.rd La2⟩ td72 (fill (mk 165 [(4,.pointer (some ⟨ba2v4,0,none⟩)),(6,.pointer (some ⟨ba2v6,0,none⟩)),(13,.pointer (some ⟨ba2v13,0,none⟩)),(14,.pointer (some ⟨ba2v14,0,none⟩))]) l131) w127 R:=by
     intro t123 t124 t125 t126 he132 l131 w127 hS128
     subst he132
     try dsimp only at hp122
     refine sR 2 (.inRegion (opsOf p3_22) [0,1,2]::.code p3_23::td63) ?_
     refine rL1 3 (.tmp 14) 0 (hS128.blk 3 rfl) ?_
     refine sR 1 (.inRegion (opsOf p3_22) [2]::.code p3_23::td63) ?_
     have hS133:=hS128.pick3
     refine rS 3 (.tmp 14) (.tmp 131) 0 (.int .i64 (IntKind.i64.wrap (a2v14v + 1))) [.int .i64 (IntKind.i64.wrap (a2v14v + 1))] [.int .i64 (IntKind.i64.wrap (a2v14v + 1))] hS133 ?_
     intro w134 hS135
     refine sR 3 (iR p3_24 0 7::td74) ?_
     refine rL1 3 (.tmp 13) 0 (hS135.blk 3 rfl) ?_
     refine sI 1 (iR p3_24 2 5::td74) 133 hp122 (fun hp138 => ?_) fun hp187 => ?_
     ·refine sR 1 (iR p3_24 3 4::td74) ?_
      refine rL1 3 (.tmp 14) 0 (hS135.blk 0 rfl) ?_
      refine rL1 3 (.tmp 4) 0 (hS135.blk 1 rfl) ?_
      refine sI 1 (.inRegion (opsOf p3_24) [6]::td74) 137 hp138 (fun hp141 => ?_) fun hp164 => ?_
      ·refine sR 3 (.code p3_10::td63) ?_
       have hS142:=hS135.pick4
       refine r_rexit (id:=2) hS142 [p3_9,p3_10] 1 (by kernel_rfl) (by kernel_rfl) ?_
       intro w143 hS144
       have hS145 : St w0 Z (xlp La2 3 (fill (mk 165 [(4,.pointer (some ⟨ba2v4,0,none⟩)),(5,.pointer (some ⟨ba2v5,0,none⟩)),(6,.pointer (some ⟨ba2v6,0,none⟩)),(9,.pointer (some ⟨ba2v9,0,none⟩)),(11,.pointer (some ⟨ba2v11,0,none⟩)),(12,.pointer (some ⟨ba2v12,0,none⟩)),(13,.pointer (some ⟨ba2v13,0,none⟩)),(14,.pointer (some ⟨ba2v14,0,none⟩))]) la2) #[44,45] p3_7 p3_8 Da2 [p3_9,p3_10] 2::xblk ba2v14 3 ([.int .i64 (IntKind.i64.wrap (a2v14v + 1))])::xblk ba2v4 3 ([.int .i64 a2v4v])::xblk ba2v6 4 ([.bool t123])::xblk ba2v13 3 ([.int .i64 a2v13v])::xblk ba2v5 3 ([.int .i64 a2v5v])::xblk ba2v9 43 ([.slice Aa2v9v_0 a2v9v_0.length ca2v9v_0,.slice Aa2v9v_1 a2v9v_1.length ca2v9v_1,.slice Aa2v9v_2 a2v9v_2.length ca2v9v_2,.slice Aa2v9v_3 a2v9v_3.length ca2v9v_3,.slice Aa2v9v_4 a2v9v_4.length ca2v9v_4,.slice Aa2v9v_5 a2v9v_5.length ca2v9v_5,.slice Aa2v9v_6 a2v9v_6.length ca2v9v_6,.bool a2v9v_7,.map (some ba2v9v_8)])::xmap ba2v9v_8 (a2v9v_8m.map (kv Value.string (Value.int .i64)))::xblk ba2v11 33 ([.pointer (some ⟨ba2v11v,0,none⟩)])::xblk ba2v11v 49 ([.map (some ba2v11vv_0),.map (some ba2v11vv_1),.map (some ba2v11vv_2),.bool t124])::xmap ba2v11vv_0 (t125.map (kv Value.string (Value.int .i64)))::xmap ba2v11vv_1 (a2v11vv_1m.map (kv Value.string (Value.int .i64)))::xmap ba2v11vv_2 (t126.map (kv Value.string (Value.int .i64)))::xblk ba2v12 46 ([.func (.func 34) #[] #[.pointer (some ⟨ba2v12vc0,0,none⟩)]])::xblk ba2v12vc0 32 ([.string a2v12vc0v_0,.func (.func 28) #[] #[.pointer (some ⟨ba2v12vc0v_1c0,0,none⟩),.pointer (some ⟨ba2v12vc0v_1c1,0,none⟩)],.func (.func 31) #[] #[.pointer (some ⟨ba2v12vc0v_1c1,0,none⟩),.pointer (some ⟨ba2v12vc0v_1c0,0,none⟩)],.func (.func 32) #[] #[.pointer (some ⟨ba2v12vc0v_1c0,0,none⟩),.pointer (some ⟨ba2v12vc0v_1c1,0,none⟩)]])::xblk ba2v12vc0v_1c0 33 ([.pointer (some ⟨ba2v11v,0,none⟩)])::xblk ba2v12vc0v_1c1 26 ([.slice Aa2v12vc0v_1c1v_0 a2v12vc0v_1c1v.Next.length ca2v12vc0v_1c1v_0,.slice Aa2v12vc0v_1c1v_1 a2v12vc0v_1c1v.End.length ca2v12vc0v_1c1v_1,.slice Aa2v12vc0v_1c1v_2 a2v12vc0v_1c1v.Value.length ca2v12vc0v_1c1v_2,.int .i64 a2v12vc0v_1c1v.Start])::fs) w143:=hS144
       have hS146:=hS145.pick1
       have hS147:=hS146.pick4
       have hS148:=hS147.pick16
       have hS149:=hS148.pick16
       have hS150:=hS149.pick16
       have hS151:=hS150.pick16
       have hS152:=hS151.pick16
       have hS153:=hS152.pick16
       have hS154:=hS153.pick16
       have hS155:=hS154.pick16
       have hS156:=hS155.pick16
       have hS157:=hS156.pick16
       have hS158:=hS157.pick16
       have hS159:=hS158.pick15
       have hS160:=hS159.pick16
       have hS161:=hS160.pick16
       have hS162:=hS161.pick16
       cases Option.some.inj hp141
       exact hR _ _ ⟨rfl,hS162⟩
      refine sR 5 [] ?_
      have hS165:=hS135.pick4
      refine r_rend hS165 [p3_9,p3_10] ?_
      intro w166 hS167
      have hS168 : St w0 Z (xlp La2 3 (fill (mk 165 [(4,.pointer (some ⟨ba2v4,0,none⟩)),(5,.pointer (some ⟨ba2v5,0,none⟩)),(6,.pointer (some ⟨ba2v6,0,none⟩)),(9,.pointer (some ⟨ba2v9,0,none⟩)),(11,.pointer (some ⟨ba2v11,0,none⟩)),(12,.pointer (some ⟨ba2v12,0,none⟩)),(13,.pointer (some ⟨ba2v13,0,none⟩)),(14,.pointer (some ⟨ba2v14,0,none⟩))]) la2) #[44,45] p3_7 p3_8 Da2 [p3_9,p3_10] 0::xblk ba2v14 3 ([.int .i64 (IntKind.i64.wrap (a2v14v + 1))])::xblk ba2v4 3 ([.int .i64 a2v4v])::xblk ba2v6 4 ([.bool t123])::xblk ba2v13 3 ([.int .i64 a2v13v])::xblk ba2v5 3 ([.int .i64 a2v5v])::xblk ba2v9 43 ([.slice Aa2v9v_0 a2v9v_0.length ca2v9v_0,.slice Aa2v9v_1 a2v9v_1.length ca2v9v_1,.slice Aa2v9v_2 a2v9v_2.length ca2v9v_2,.slice Aa2v9v_3 a2v9v_3.length ca2v9v_3,.slice Aa2v9v_4 a2v9v_4.length ca2v9v_4,.slice Aa2v9v_5 a2v9v_5.length ca2v9v_5,.slice Aa2v9v_6 a2v9v_6.length ca2v9v_6,.bool a2v9v_7,.map (some ba2v9v_8)])::xmap ba2v9v_8 (a2v9v_8m.map (kv Value.string (Value.int .i64)))::xblk ba2v11 33 ([.pointer (some ⟨ba2v11v,0,none⟩)])::xblk ba2v11v 49 ([.map (some ba2v11vv_0),.map (some ba2v11vv_1),.map (some ba2v11vv_2),.bool t124])::xmap ba2v11vv_0 (t125.map (kv Value.string (Value.int .i64)))::xmap ba2v11vv_1 (a2v11vv_1m.map (kv Value.string (Value.int .i64)))::xmap ba2v11vv_2 (t126.map (kv Value.string (Value.int .i64)))::xblk ba2v12 46 ([.func (.func 34) #[] #[.pointer (some ⟨ba2v12vc0,0,none⟩)]])::xblk ba2v12vc0 32 ([.string a2v12vc0v_0,.func (.func 28) #[] #[.pointer (some ⟨ba2v12vc0v_1c0,0,none⟩),.pointer (some ⟨ba2v12vc0v_1c1,0,none⟩)],.func (.func 31) #[] #[.pointer (some ⟨ba2v12vc0v_1c1,0,none⟩),.pointer (some ⟨ba2v12vc0v_1c0,0,none⟩)],.func (.func 32) #[] #[.pointer (some ⟨ba2v12vc0v_1c0,0,none⟩),.pointer (some ⟨ba2v12vc0v_1c1,0,none⟩)]])::xblk ba2v12vc0v_1c0 33 ([.pointer (some ⟨ba2v11v,0,none⟩)])::xblk ba2v12vc0v_1c1 26 ([.slice Aa2v12vc0v_1c1v_0 a2v12vc0v_1c1v.Next.length ca2v12vc0v_1c1v_0,.slice Aa2v12vc0v_1c1v_1 a2v12vc0v_1c1v.End.length ca2v12vc0v_1c1v_1,.slice Aa2v12vc0v_1c1v_2 a2v12vc0v_1c1v.Value.length ca2v12vc0v_1c1v_2,.int .i64 a2v12vc0v_1c1v.Start])::fs) w166:=hS167
      have hS169:=hS168.pick1
      have hS170:=hS169.pick4
      have hS171:=hS170.pick16
      have hS172:=hS171.pick16
      have hS173:=hS172.pick16
      have hS174:=hS173.pick16
      have hS175:=hS174.pick16
      have hS176:=hS175.pick16
      have hS177:=hS176.pick16
      have hS178:=hS177.pick16
      have hS179:=hS178.pick16
      have hS180:=hS179.pick16
      have hS181:=hS180.pick16
      have hS182:=hS181.pick15
      have hS183:=hS182.pick16
      have hS184:=hS183.pick16
      have hS185:=hS184.pick16
      cases Option.some.inj hp164
      exact hR _ _ ⟨rfl,hS185⟩
     refine sR 9 [] ?_
     have hS188:=hS135.pick4
     refine r_rend hS188 [p3_9,p3_10] ?_
     intro w189 hS190
     have hS191 : St w0 Z (xlp La2 3 (fill (mk 165 [(4,.pointer (some ⟨ba2v4,0,none⟩)),(5,.pointer (some ⟨ba2v5,0,none⟩)),(6,.pointer (some ⟨ba2v6,0,none⟩)),(9,.pointer (some ⟨ba2v9,0,none⟩)),(11,.pointer (some ⟨ba2v11,0,none⟩)),(12,.pointer (some ⟨ba2v12,0,none⟩)),(13,.pointer (some ⟨ba2v13,0,none⟩)),(14,.pointer (some ⟨ba2v14,0,none⟩))]) la2) #[44,45] p3_7 p3_8 Da2 [p3_9,p3_10] 0::xblk ba2v14 3 ([.int .i64 (IntKind.i64.wrap (a2v14v + 1))])::xblk ba2v4 3 ([.int .i64 a2v4v])::xblk ba2v6 4 ([.bool t123])::xblk ba2v13 3 ([.int .i64 a2v13v])::xblk ba2v5 3 ([.int .i64 a2v5v])::xblk ba2v9 43 ([.slice Aa2v9v_0 a2v9v_0.length ca2v9v_0,.slice Aa2v9v_1 a2v9v_1.length ca2v9v_1,.slice Aa2v9v_2 a2v9v_2.length ca2v9v_2,.slice Aa2v9v_3 a2v9v_3.length ca2v9v_3,.slice Aa2v9v_4 a2v9v_4.length ca2v9v_4,.slice Aa2v9v_5 a2v9v_5.length ca2v9v_5,.slice Aa2v9v_6 a2v9v_6.length ca2v9v_6,.bool a2v9v_7,.map (some ba2v9v_8)])::xmap ba2v9v_8 (a2v9v_8m.map (kv Value.string (Value.int .i64)))::xblk ba2v11 33 ([.pointer (some ⟨ba2v11v,0,none⟩)])::xblk ba2v11v 49 ([.map (some ba2v11vv_0),.map (some ba2v11vv_1),.map (some ba2v11vv_2),.bool t124])::xmap ba2v11vv_0 (t125.map (kv Value.string (Value.int .i64)))::xmap ba2v11vv_1 (a2v11vv_1m.map (kv Value.string (Value.int .i64)))::xmap ba2v11vv_2 (t126.map (kv Value.string (Value.int .i64)))::xblk ba2v12 46 ([.func (.func 34) #[] #[.pointer (some ⟨ba2v12vc0,0,none⟩)]])::xblk ba2v12vc0 32 ([.string a2v12vc0v_0,.func (.func 28) #[] #[.pointer (some ⟨ba2v12vc0v_1c0,0,none⟩),.pointer (some ⟨ba2v12vc0v_1c1,0,none⟩)],.func (.func 31) #[] #[.pointer (some ⟨ba2v12vc0v_1c1,0,none⟩),.pointer (some ⟨ba2v12vc0v_1c0,0,none⟩)],.func (.func 32) #[] #[.pointer (some ⟨ba2v12vc0v_1c0,0,none⟩),.pointer (some ⟨ba2v12vc0v_1c1,0,none⟩)]])::xblk ba2v12vc0v_1c0 33 ([.pointer (some ⟨ba2v11v,0,none⟩)])::xblk ba2v12vc0v_1c1 26 ([.slice Aa2v12vc0v_1c1v_0 a2v12vc0v_1c1v.Next.length ca2v12vc0v_1c1v_0,.slice Aa2v12vc0v_1c1v_1 a2v12vc0v_1c1v.End.length ca2v12vc0v_1c1v_1,.slice Aa2v12vc0v_1c1v_2 a2v12vc0v_1c1v.Value.length ca2v12vc0v_1c1v_2,.int .i64 a2v12vc0v_1c1v.Start])::fs) w189:=hS190
     have hS192:=hS191.pick1
     have hS193:=hS192.pick4
     have hS194:=hS193.pick16
     have hS195:=hS194.pick16
     have hS196:=hS195.pick16
     have hS197:=hS196.pick16
     have hS198:=hS197.pick16
     have hS199:=hS198.pick16
     have hS200:=hS199.pick16
     have hS201:=hS200.pick16
     have hS202:=hS201.pick16
     have hS203:=hS202.pick16
     have hS204:=hS203.pick16
     have hS205:=hS204.pick15
     have hS206:=hS205.pick16
     have hS207:=hS206.pick16
     have hS208:=hS207.pick16
     cases Option.some.inj hp187
     exact hR _ _ ⟨rfl,hS208⟩
    cases t114
    ·have hp210:=ite_f hv121 rfl
     refine sR 2 td72 ?_
     have hS211:=hS116.pick11
     have hS212:=hS211.pick7
     have hS213:=hS212.pick7
     have hS214:=hS213.pick7
     have hS215:=hS214.pick11
     have hS216:=hS215.pick11
     have hS217:=hS216.pick11
     have hS218:=hS217.pick11
     have hS219:=hS218.pick16
     have hS220:=hS219.pick12
     have hS221:=hS220.pick12
     have hS222:=hS221.pick16
     have hS223:=hS222.pick16
     have hS224:=hS223.pick16
     have hS225:=hS224.pick16
     have hS226:=hS225.pick16
     have hS227:=hS226.pick16
     exact rF _ (J130 a2v6v a2v11vv_3 a2v11vv_0m a2v11vv_2m (Option.some.inj hp210) _ _ hS227)
    have hp228:=ite_t hv121 rfl
    refine sR 3 (.inRegion (opsOf (cd3 [1,1,1,1,1,1,1,0,1,0,0,1,0,0,1,0,1,0,1,0,1,1,0,1,0,0])) [0,1]::.code (cd3 [1,1,1,1,1,1,1,0,1,0,0,1,0,0,1,0,1,0,1,0,1,1,0,1,0,1])::td72) ?_
    refine rA 3 (.int .i64 0) [.int .i64 0] hS116 ?_
    intro b229 w230 hS231
    refine rS 3 (.tmp 18) (.const (.int .i64 0)) 0 (.int .i64 0) [.int .i64 0] [.int .i64 0] hS231 ?_
    intro w233 hS234
    refine sR 4 (.inRegion (opsOf (cd3 [1,1,1,1,1,1,1,0,1,0,0,1,0,0,1,0,1,0,1,0,1,1,0,1,0,1,0,0])) [0]::.code (cd3 [1,1,1,1,1,1,1,0,1,0,0,1,0,0,1,0,1,0,1,0,1,1,0,1,0,1,0,1])::.code p3_30::td72) ?_
    refine rL1 46 (.tmp 12) 0 (hS234.blk 5 rfl) ?_
    refine sR 2 (.code p3_31::.inBlock 6::.code p3_30::td72) ?_
    refine Runs.fillG (m:=(mk 165 [(4,.pointer (some ⟨ba2v4,0,none⟩)),(6,.pointer (some ⟨ba2v6,0,none⟩)),(9,.pointer (some ⟨ba2v9,0,none⟩)),(13,.pointer (some ⟨ba2v13,0,none⟩)),(14,.pointer (some ⟨ba2v14,0,none⟩)),(18,.pointer (some ⟨b229,0,none⟩)),(106,.func (.func 34) #[] #[.pointer (some ⟨ba2v12vc0,0,none⟩)])])) (by kernel_rfl) ?_
    intro l235
    refine r_rangeFN (n:=15) (c:=p3_31) (g:=(.tmp 106)) (ps:=#[107,108]) (am:=p3_0) (bd:=p3_1) (gf:=34) (caps:=#[.pointer (some ⟨ba2v12vc0,0,none⟩)]) (args:=fun L => #[.func (.yield L) #[] #[],.pointer (some ⟨ba2v12vc0,0,none⟩)]) [p3_2] hS234 rfl (by kernel_rfl) (by kernel_rfl) (fun _ => (by kernel_rfl)) ?_
    intro L236 w238 hS239
    have hS242 : St w0 Z (xlp L236 3 (fill (mk 165 [(6,.pointer (some ⟨ba2v6,0,none⟩)),(9,.pointer (some ⟨ba2v9,0,none⟩)),(18,.pointer (some ⟨b229,0,none⟩))]) (fill (mk 165 [(4,.pointer (some ⟨ba2v4,0,none⟩)),(6,.pointer (some ⟨ba2v6,0,none⟩)),(9,.pointer (some ⟨ba2v9,0,none⟩)),(13,.pointer (some ⟨ba2v13,0,none⟩)),(14,.pointer (some ⟨ba2v14,0,none⟩)),(18,.pointer (some ⟨b229,0,none⟩)),(106,.func (.func 34) #[] #[.pointer (some ⟨ba2v12vc0,0,none⟩)])]) l235)) #[107,108] p3_0 p3_1 Da2 [p3_2] 0::xblk b229 3 ([.int .i64 0])::xblk ba2v4 3 ([.int .i64 a2v4v])::xblk ba2v6 4 ([.bool a2v6v])::xblk ba2v9 43 ([.slice Aa2v9v_0 a2v9v_0.length ca2v9v_0,.slice Aa2v9v_1 a2v9v_1.length ca2v9v_1,.slice Aa2v9v_2 a2v9v_2.length ca2v9v_2,.slice Aa2v9v_3 a2v9v_3.length ca2v9v_3,.slice Aa2v9v_4 a2v9v_4.length ca2v9v_4,.slice Aa2v9v_5 a2v9v_5.length ca2v9v_5,.slice Aa2v9v_6 a2v9v_6.length ca2v9v_6,.bool a2v9v_7,.map (some ba2v9v_8)])::xmap ba2v9v_8 (a2v9v_8m.map (kv Value.string (Value.int .i64)))::xblk ba2v12 46 ([.func (.func 34) #[] #[.pointer (some ⟨ba2v12vc0,0,none⟩)]])::xblk ba2v12vc0 32 ([.string a2v12vc0v_0,.func (.func 28) #[] #[.pointer (some ⟨ba2v12vc0v_1c0,0,none⟩),.pointer (some ⟨ba2v12vc0v_1c1,0,none⟩)],.func (.func 31) #[] #[.pointer (some ⟨ba2v12vc0v_1c1,0,none⟩),.pointer (some ⟨ba2v12vc0v_1c0,0,none⟩)],.func (.func 32) #[] #[.pointer (some ⟨ba2v12vc0v_1c0,0,none⟩),.pointer (some ⟨ba2v12vc0v_1c1,0,none⟩)]])::xblk ba2v12vc0v_1c0 33 ([.pointer (some ⟨ba2v11v,0,none⟩)])::xblk ba2v11v 49 ([.map (some ba2v11vv_0),.map (some ba2v11vv_1),.map (some ba2v11vv_2),.bool a2v11vv_3])::xmap ba2v11vv_0 (a2v11vv_0m.map (kv Value.string (Value.int .i64)))::xmap ba2v11vv_1 (a2v11vv_1m.map (kv Value.string (Value.int .i64)))::xmap ba2v11vv_2 (a2v11vv_2m.map (kv Value.string (Value.int .i64)))::xblk ba2v12vc0v_1c1 26 ([.slice Aa2v12vc0v_1c1v_0 a2v12vc0v_1c1v.Next.length ca2v12vc0v_1c1v_0,.slice Aa2v12vc0v_1c1v_1 a2v12vc0v_1c1v.End.length ca2v12vc0v_1c1v_1,.slice Aa2v12vc0v_1c1v_2 a2v12vc0v_1c1v.Value.length ca2v12vc0v_1c1v_2,.int .i64 a2v12vc0v_1c1v.Start])::xblk ba2v13 3 ([.int .i64 a2v13v])::xblk ba2v14 3 ([.int .i64 a2v14v])::xlb La2 3 (fill (mk 165 [(4,.pointer (some ⟨ba2v4,0,none⟩)),(5,.pointer (some ⟨ba2v5,0,none⟩)),(6,.pointer (some ⟨ba2v6,0,none⟩)),(9,.pointer (some ⟨ba2v9,0,none⟩)),(11,.pointer (some ⟨ba2v11,0,none⟩)),(12,.pointer (some ⟨ba2v12,0,none⟩)),(13,.pointer (some ⟨ba2v13,0,none⟩)),(14,.pointer (some ⟨ba2v14,0,none⟩))]) la2) #[44,45] p3_7 p3_8 Da2::xblk ba2v5 3 ([.int .i64 a2v5v])::xblk ba2v11 33 ([.pointer (some ⟨ba2v11v,0,none⟩)])::fs) w238:=hS239
    obtain ⟨⟨t243,t244,t245,t246,t247,t248⟩,hr249,hp250⟩:=bind_some' hp228
    try dsimp only at hp250
    have hS261:=hS242.pick13
    have hS262:=hS261.pick13
    have hS263:=hS262.pick13
    have hS264:=hS263.pick13
    have hS265:=hS264.pick13
    have hS266:=hS265.pick13
    have hS267:=hS266.pick13
    have hS268:=hS267.pick8
    have hS269:=hS268.pick12
    have hS270:=hS269.pick12
    have hS271:=hS270.pick12
    have hS272:=hS271.pick11
    refine ⟨_,(explore_States_1_1.ok hr249 hS272 ha2v9v_0 ha2v9v_1 ha2v9v_2 ha2v9v_3 ha2v9v_4 ha2v9v_5 ha2v9v_6 ha2v12vc0v_1c1v_0 ha2v12vc0v_1c1v_1 ha2v12vc0v_1c1v_2),?_⟩
    rintro _ w273 ⟨rfl,hS274⟩
    refine ⟨⟨_,rfl⟩,?_⟩
    rcases Bool.eq_false_or_eq_true (decide (t243 = 0)) with h275 | h276
    ·have hp277:=ite_t hp250 h275
     have hS278 : St w0 Z (xlp L236 3 (fill (mk 165 [(6,.pointer (some ⟨ba2v6,0,none⟩)),(9,.pointer (some ⟨ba2v9,0,none⟩)),(18,.pointer (some ⟨b229,0,none⟩))]) (fill (mk 165 [(4,.pointer (some ⟨ba2v4,0,none⟩)),(6,.pointer (some ⟨ba2v6,0,none⟩)),(9,.pointer (some ⟨ba2v9,0,none⟩)),(13,.pointer (some ⟨ba2v13,0,none⟩)),(14,.pointer (some ⟨ba2v14,0,none⟩)),(18,.pointer (some ⟨b229,0,none⟩)),(106,.func (.func 34) #[] #[.pointer (some ⟨ba2v12vc0,0,none⟩)])]) l235)) #[107,108] p3_0 p3_1 Da2 [p3_2] 0::xblk ba2v6 4 ([.bool t244])::xblk ba2v9 43 ([.slice Aa2v9v_0 a2v9v_0.length ca2v9v_0,.slice Aa2v9v_1 a2v9v_1.length ca2v9v_1,.slice Aa2v9v_2 a2v9v_2.length ca2v9v_2,.slice Aa2v9v_3 a2v9v_3.length ca2v9v_3,.slice Aa2v9v_4 a2v9v_4.length ca2v9v_4,.slice Aa2v9v_5 a2v9v_5.length ca2v9v_5,.slice Aa2v9v_6 a2v9v_6.length ca2v9v_6,.bool a2v9v_7,.map (some ba2v9v_8)])::xmap ba2v9v_8 (a2v9v_8m.map (kv Value.string (Value.int .i64)))::xblk b229 3 ([.int .i64 t245])::xblk ba2v12vc0 32 ([.string a2v12vc0v_0,.func (.func 28) #[] #[.pointer (some ⟨ba2v12vc0v_1c0,0,none⟩),.pointer (some ⟨ba2v12vc0v_1c1,0,none⟩)],.func (.func 31) #[] #[.pointer (some ⟨ba2v12vc0v_1c1,0,none⟩),.pointer (some ⟨ba2v12vc0v_1c0,0,none⟩)],.func (.func 32) #[] #[.pointer (some ⟨ba2v12vc0v_1c0,0,none⟩),.pointer (some ⟨ba2v12vc0v_1c1,0,none⟩)]])::xblk ba2v12vc0v_1c0 33 ([.pointer (some ⟨ba2v11v,0,none⟩)])::xblk ba2v11v 49 ([.map (some ba2v11vv_0),.map (some ba2v11vv_1),.map (some ba2v11vv_2),.bool t246])::xmap ba2v11vv_0 (t247.map (kv Value.string (Value.int .i64)))::xmap ba2v11vv_1 (a2v11vv_1m.map (kv Value.string (Value.int .i64)))::xmap ba2v11vv_2 (t248.map (kv Value.string (Value.int .i64)))::xblk ba2v12vc0v_1c1 26 ([.slice Aa2v12vc0v_1c1v_0 a2v12vc0v_1c1v.Next.length ca2v12vc0v_1c1v_0,.slice Aa2v12vc0v_1c1v_1 a2v12vc0v_1c1v.End.length ca2v12vc0v_1c1v_1,.slice Aa2v12vc0v_1c1v_2 a2v12vc0v_1c1v.Value.length ca2v12vc0v_1c1v_2,.int .i64 a2v12vc0v_1c1v.Start])::xblk ba2v4 3 ([.int .i64 a2v4v])::xblk ba2v12 46 ([.func (.func 34) #[] #[.pointer (some ⟨ba2v12vc0,0,none⟩)]])::xblk ba2v13 3 ([.int .i64 a2v13v])::xblk ba2v14 3 ([.int .i64 a2v14v])::xlb La2 3 (fill (mk 165 [(4,.pointer (some ⟨ba2v4,0,none⟩)),(5,.pointer (some ⟨ba2v5,0,none⟩)),(6,.pointer (some ⟨ba2v6,0,none⟩)),(9,.pointer (some ⟨ba2v9,0,none⟩)),(11,.pointer (some ⟨ba2v11,0,none⟩)),(12,.pointer (some ⟨ba2v12,0,none⟩)),(13,.pointer (some ⟨ba2v13,0,none⟩)),(14,.pointer (some ⟨ba2v14,0,none⟩))]) la2) #[44,45] p3_7 p3_8 Da2::xblk ba2v5 3 ([.int .i64 a2v5v])::xblk ba2v11 33 ([.pointer (some ⟨ba2v11v,0,none⟩)])::fs) w273:=by have h:=hS274; rw [of_decide_eq_true h275] at h; exact h
     refine r_endF0 hS278 ?_
     intro w279 hS280
     refine sR 3 (iR p3_32 0 5::td75) ?_
     refine rL1 3 (.tmp 18) 0 (hS280.blk 3 rfl) ?_
     refine sR 1 (.inRegion (opsOf p3_32) [2,3,4]::td75) ?_
     refine rL1 36 (.tmp 126) 0 (hS280.blk 1 rfl) ?_
     refine sI 2 (.inRegion (opsOf p3_32) []::td75) 129 hp277 (fun hp283 => ?_) fun hp310 => ?_
     ·refine sR 4 (.inRegion (opsOf (cd3 [1,1,1,1,1,1,1,0,1,0,0,1,0,0,1,0,1,0,1,0,1,1,0,1,0,1,1,1,0,0])) [0]::.code p3_35::td72) ?_
      refine rS 4 (.tmp 6) (.const (.bool false)) 0 (.bool false) [.bool false] [.bool false] hS280 ?_
      intro w284 hS285
      refine sR 1 (.code p3_35::td72) ?_
      refine r_isret (c:=p3_35) (by kernel_rfl) ?_
      have hS286:=hS285.pick15
      refine r_rret hS286 [p3_9,p3_10] 0 (by kernel_rfl) ?_
      intro w287 hS288
      have hS289 : St w0 Z (xlp La2 3 (fill (mk 165 [(4,.pointer (some ⟨ba2v4,0,none⟩)),(5,.pointer (some ⟨ba2v5,0,none⟩)),(6,.pointer (some ⟨ba2v6,0,none⟩)),(9,.pointer (some ⟨ba2v9,0,none⟩)),(11,.pointer (some ⟨ba2v11,0,none⟩)),(12,.pointer (some ⟨ba2v12,0,none⟩)),(13,.pointer (some ⟨ba2v13,0,none⟩)),(14,.pointer (some ⟨ba2v14,0,none⟩))]) la2) #[44,45] p3_7 p3_8 Da2 [p3_9,p3_10] 1::xblk ba2v6 4 ([.bool false])::xblk ba2v9 43 ([.slice Aa2v9v_0 a2v9v_0.length ca2v9v_0,.slice Aa2v9v_1 a2v9v_1.length ca2v9v_1,.slice Aa2v9v_2 a2v9v_2.length ca2v9v_2,.slice Aa2v9v_3 a2v9v_3.length ca2v9v_3,.slice Aa2v9v_4 a2v9v_4.length ca2v9v_4,.slice Aa2v9v_5 a2v9v_5.length ca2v9v_5,.slice Aa2v9v_6 a2v9v_6.length ca2v9v_6,.bool a2v9v_7,.map (some ba2v9v_8)])::xmap ba2v9v_8 (a2v9v_8m.map (kv Value.string (Value.int .i64)))::xblk b229 3 ([.int .i64 t245])::xblk ba2v12vc0 32 ([.string a2v12vc0v_0,.func (.func 28) #[] #[.pointer (some ⟨ba2v12vc0v_1c0,0,none⟩),.pointer (some ⟨ba2v12vc0v_1c1,0,none⟩)],.func (.func 31) #[] #[.pointer (some ⟨ba2v12vc0v_1c1,0,none⟩),.pointer (some ⟨ba2v12vc0v_1c0,0,none⟩)],.func (.func 32) #[] #[.pointer (some ⟨ba2v12vc0v_1c0,0,none⟩),.pointer (some ⟨ba2v12vc0v_1c1,0,none⟩)]])::xblk ba2v12vc0v_1c0 33 ([.pointer (some ⟨ba2v11v,0,none⟩)])::xblk ba2v11v 49 ([.map (some ba2v11vv_0),.map (some ba2v11vv_1),.map (some ba2v11vv_2),.bool t246])::xmap ba2v11vv_0 (t247.map (kv Value.string (Value.int .i64)))::xmap ba2v11vv_1 (a2v11vv_1m.map (kv Value.string (Value.int .i64)))::xmap ba2v11vv_2 (t248.map (kv Value.string (Value.int .i64)))::xblk ba2v12vc0v_1c1 26 ([.slice Aa2v12vc0v_1c1v_0 a2v12vc0v_1c1v.Next.length ca2v12vc0v_1c1v_0,.slice Aa2v12vc0v_1c1v_1 a2v12vc0v_1c1v.End.length ca2v12vc0v_1c1v_1,.slice Aa2v12vc0v_1c1v_2 a2v12vc0v_1c1v.Value.length ca2v12vc0v_1c1v_2,.int .i64 a2v12vc0v_1c1v.Start])::xblk ba2v4 3 ([.int .i64 a2v4v])::xblk ba2v12 46 ([.func (.func 34) #[] #[.pointer (some ⟨ba2v12vc0,0,none⟩)]])::xblk ba2v13 3 ([.int .i64 a2v13v])::xblk ba2v14 3 ([.int .i64 a2v14v])::xblk ba2v5 3 ([.int .i64 a2v5v])::xblk ba2v11 33 ([.pointer (some ⟨ba2v11v,0,none⟩)])::fs) w287:=hS288
      have hS290:=hS289.pick4
      have hS291:=hS290.drop
      have hS292:=hS291.pick14
      have hS293:=hS292.pick14
      have hS294:=hS293.pick12
      have hS295:=hS294.pick8
      have hS296:=hS295.pick8
      have hS297:=hS296.pick14
      have hS298:=hS297.pick13
      have hS299:=hS298.pick13
      have hS300:=hS299.pick13
      have hS301:=hS300.pick13
      have hS302:=hS301.pick16
      have hS303:=hS302.pick14
      have hS304:=hS303.pick14
      have hS305:=hS304.pick14
      have hS306:=hS305.pick16
      have hS307:=hS306.pick16
      have hS308:=hS307.pick16
      cases hq129 _ (Option.some.inj hp283)
      exact hR _ _ ⟨rfl,hS308⟩
     refine sR 3 td72 ?_
     have hS311:=hS280.pick3
     have hS312:=hS311.drop
     have hS313:=hS312.pick9
     have hS314:=hS313.pick5
     have hS315:=hS314.pick5
     have hS316:=hS315.pick11
     have hS317:=hS316.pick10
     have hS318:=hS317.pick10
     have hS319:=hS318.pick10
     have hS320:=hS319.pick10
     have hS321:=hS320.pick16
     have hS322:=hS321.pick11
     have hS323:=hS322.pick11
     have hS324:=hS323.pick16
     have hS325:=hS324.pick16
     have hS326:=hS325.pick16
     have hS327:=hS326.pick16
     have hS328:=hS327.pick15
     have hS329:=hS328.pick16
     exact rF _ (J130 t244 t246 t247 t248 (Option.some.inj hp310) _ _ hS329)
    have hp330:=ite_f hp250 h276
    obtain ⟨g331,hp332⟩:=ite_some hp330
    have hS333 : St w0 Z (xlp L236 3 (fill (mk 165 [(6,.pointer (some ⟨ba2v6,0,none⟩)),(9,.pointer (some ⟨ba2v9,0,none⟩)),(18,.pointer (some ⟨b229,0,none⟩))]) (fill (mk 165 [(4,.pointer (some ⟨ba2v4,0,none⟩)),(6,.pointer (some ⟨ba2v6,0,none⟩)),(9,.pointer (some ⟨ba2v9,0,none⟩)),(13,.pointer (some ⟨ba2v13,0,none⟩)),(14,.pointer (some ⟨ba2v14,0,none⟩)),(18,.pointer (some ⟨b229,0,none⟩)),(106,.func (.func 34) #[] #[.pointer (some ⟨ba2v12vc0,0,none⟩)])]) l235)) #[107,108] p3_0 p3_1 Da2 [p3_2] 1::xblk ba2v6 4 ([.bool t244])::xblk ba2v9 43 ([.slice Aa2v9v_0 a2v9v_0.length ca2v9v_0,.slice Aa2v9v_1 a2v9v_1.length ca2v9v_1,.slice Aa2v9v_2 a2v9v_2.length ca2v9v_2,.slice Aa2v9v_3 a2v9v_3.length ca2v9v_3,.slice Aa2v9v_4 a2v9v_4.length ca2v9v_4,.slice Aa2v9v_5 a2v9v_5.length ca2v9v_5,.slice Aa2v9v_6 a2v9v_6.length ca2v9v_6,.bool a2v9v_7,.map (some ba2v9v_8)])::xmap ba2v9v_8 (a2v9v_8m.map (kv Value.string (Value.int .i64)))::xblk b229 3 ([.int .i64 t245])::xblk ba2v12vc0 32 ([.string a2v12vc0v_0,.func (.func 28) #[] #[.pointer (some ⟨ba2v12vc0v_1c0,0,none⟩),.pointer (some ⟨ba2v12vc0v_1c1,0,none⟩)],.func (.func 31) #[] #[.pointer (some ⟨ba2v12vc0v_1c1,0,none⟩),.pointer (some ⟨ba2v12vc0v_1c0,0,none⟩)],.func (.func 32) #[] #[.pointer (some ⟨ba2v12vc0v_1c0,0,none⟩),.pointer (some ⟨ba2v12vc0v_1c1,0,none⟩)]])::xblk ba2v12vc0v_1c0 33 ([.pointer (some ⟨ba2v11v,0,none⟩)])::xblk ba2v11v 49 ([.map (some ba2v11vv_0),.map (some ba2v11vv_1),.map (some ba2v11vv_2),.bool t246])::xmap ba2v11vv_0 (t247.map (kv Value.string (Value.int .i64)))::xmap ba2v11vv_1 (a2v11vv_1m.map (kv Value.string (Value.int .i64)))::xmap ba2v11vv_2 (t248.map (kv Value.string (Value.int .i64)))::xblk ba2v12vc0v_1c1 26 ([.slice Aa2v12vc0v_1c1v_0 a2v12vc0v_1c1v.Next.length ca2v12vc0v_1c1v_0,.slice Aa2v12vc0v_1c1v_1 a2v12vc0v_1c1v.End.length ca2v12vc0v_1c1v_1,.slice Aa2v12vc0v_1c1v_2 a2v12vc0v_1c1v.Value.length ca2v12vc0v_1c1v_2,.int .i64 a2v12vc0v_1c1v.Start])::xblk ba2v4 3 ([.int .i64 a2v4v])::xblk ba2v12 46 ([.func (.func 34) #[] #[.pointer (some ⟨ba2v12vc0,0,none⟩)]])::xblk ba2v13 3 ([.int .i64 a2v13v])::xblk ba2v14 3 ([.int .i64 a2v14v])::xlb La2 3 (fill (mk 165 [(4,.pointer (some ⟨ba2v4,0,none⟩)),(5,.pointer (some ⟨ba2v5,0,none⟩)),(6,.pointer (some ⟨ba2v6,0,none⟩)),(9,.pointer (some ⟨ba2v9,0,none⟩)),(11,.pointer (some ⟨ba2v11,0,none⟩)),(12,.pointer (some ⟨ba2v12,0,none⟩)),(13,.pointer (some ⟨ba2v13,0,none⟩)),(14,.pointer (some ⟨ba2v14,0,none⟩))]) la2) #[44,45] p3_7 p3_8 Da2::xblk ba2v5 3 ([.int .i64 a2v5v])::xblk ba2v11 33 ([.pointer (some ⟨ba2v11v,0,none⟩)])::fs) w273:=by have h:=hS274; rw [g331] at h; exact h
    refine r_endFj 0 (cj:=p3_2) (by kernel_rfl) hS333 ?_
    intro w334 hS335
    refine r_isret (c:=p3_2) (by kernel_rfl) ?_
    have hS336:=hS335.pick15
    refine r_rret hS336 [p3_9,p3_10] 0 (by kernel_rfl) ?_
    intro w337 hS338
    have hS339 : St w0 Z (xlp La2 3 (fill (mk 165 [(4,.pointer (some ⟨ba2v4,0,none⟩)),(5,.pointer (some ⟨ba2v5,0,none⟩)),(6,.pointer (some ⟨ba2v6,0,none⟩)),(9,.pointer (some ⟨ba2v9,0,none⟩)),(11,.pointer (some ⟨ba2v11,0,none⟩)),(12,.pointer (some ⟨ba2v12,0,none⟩)),(13,.pointer (some ⟨ba2v13,0,none⟩)),(14,.pointer (some ⟨ba2v14,0,none⟩))]) la2) #[44,45] p3_7 p3_8 Da2 [p3_9,p3_10] 1::xblk ba2v6 4 ([.bool t244])::xblk ba2v9 43 ([.slice Aa2v9v_0 a2v9v_0.length ca2v9v_0,.slice Aa2v9v_1 a2v9v_1.length ca2v9v_1,.slice Aa2v9v_2 a2v9v_2.length ca2v9v_2,.slice Aa2v9v_3 a2v9v_3.length ca2v9v_3,.slice Aa2v9v_4 a2v9v_4.length ca2v9v_4,.slice Aa2v9v_5 a2v9v_5.length ca2v9v_5,.slice Aa2v9v_6 a2v9v_6.length ca2v9v_6,.bool a2v9v_7,.map (some ba2v9v_8)])::xmap ba2v9v_8 (a2v9v_8m.map (kv Value.string (Value.int .i64)))::xblk b229 3 ([.int .i64 t245])::xblk ba2v12vc0 32 ([.string a2v12vc0v_0,.func (.func 28) #[] #[.pointer (some ⟨ba2v12vc0v_1c0,0,none⟩),.pointer (some ⟨ba2v12vc0v_1c1,0,none⟩)],.func (.func 31) #[] #[.pointer (some ⟨ba2v12vc0v_1c1,0,none⟩),.pointer (some ⟨ba2v12vc0v_1c0,0,none⟩)],.func (.func 32) #[] #[.pointer (some ⟨ba2v12vc0v_1c0,0,none⟩),.pointer (some ⟨ba2v12vc0v_1c1,0,none⟩)]])::xblk ba2v12vc0v_1c0 33 ([.pointer (some ⟨ba2v11v,0,none⟩)])::xblk ba2v11v 49 ([.map (some ba2v11vv_0),.map (some ba2v11vv_1),.map (some ba2v11vv_2),.bool t246])::xmap ba2v11vv_0 (t247.map (kv Value.string (Value.int .i64)))::xmap ba2v11vv_1 (a2v11vv_1m.map (kv Value.string (Value.int .i64)))::xmap ba2v11vv_2 (t248.map (kv Value.string (Value.int .i64)))::xblk ba2v12vc0v_1c1 26 ([.slice Aa2v12vc0v_1c1v_0 a2v12vc0v_1c1v.Next.length ca2v12vc0v_1c1v_0,.slice Aa2v12vc0v_1c1v_1 a2v12vc0v_1c1v.End.length ca2v12vc0v_1c1v_1,.slice Aa2v12vc0v_1c1v_2 a2v12vc0v_1c1v.Value.length ca2v12vc0v_1c1v_2,.int .i64 a2v12vc0v_1c1v.Start])::xblk ba2v4 3 ([.int .i64 a2v4v])::xblk ba2v12 46 ([.func (.func 34) #[] #[.pointer (some ⟨ba2v12vc0,0,none⟩)]])::xblk ba2v13 3 ([.int .i64 a2v13v])::xblk ba2v14 3 ([.int .i64 a2v14v])::xblk ba2v5 3 ([.int .i64 a2v5v])::xblk ba2v11 33 ([.pointer (some ⟨ba2v11v,0,none⟩)])::fs) w337:=hS338
    have hS340:=hS339.pick4
    have hS341:=hS340.drop
    have hS342:=hS341.pick14
    have hS343:=hS342.pick14
    have hS344:=hS343.pick12
    have hS345:=hS344.pick8
    have hS346:=hS345.pick8
    have hS347:=hS346.pick14
    have hS348:=hS347.pick13
    have hS349:=hS348.pick13
    have hS350:=hS349.pick13
    have hS351:=hS350.pick13
    have hS352:=hS351.pick16
    have hS353:=hS352.pick14
    have hS354:=hS353.pick14
    have hS355:=hS354.pick14
    have hS356:=hS355.pick16
    have hS357:=hS356.pick16
    have hS358:=hS357.pick16
    cases hq129 _ (Option.some.inj hp332)
    exact hR _ _ ⟨rfl,hS358⟩
   refine sR 1 (iR p3_19 0 7::td73) ?_
   refine rL1 3 (.tmp 13) 0 (hS106.blk 13 rfl) ?_
   refine sI 1 (iR p3_19 2 5::td73) 100 hv112 (fun hp362 => ?_) fun hp401 => ?_
   ·refine sR 1 (iR p3_19 3 4::td73) ?_
    refine rL1 3 (.tmp 14) 0 (hS106.blk 14 rfl) ?_
    refine rL1 3 (.tmp 5) 0 (hS106.blk 1 rfl) ?_
    refine sI 1 (.inRegion (opsOf p3_19) [6]::td73) 104 hp362 (fun hp365 => ?_) fun hp383 => ?_
    ·refine sR 2 td73 ?_
     have hS366:=hS106.pick16
     have hS367:=hS366.pick2
     have hS368:=hS367.pick16
     have hS369:=hS368.pick16
     have hS370:=hS369.pick16
     have hS371:=hS370.pick16
     have hS372:=hS371.pick16
     have hS373:=hS372.pick16
     have hS374:=hS373.pick16
     have hS375:=hS374.pick16
     have hS376:=hS375.pick16
     have hS377:=hS376.pick16
     have hS378:=hS377.pick16
     have hS379:=hS378.pick16
     have hS380:=hS379.pick16
     have hS381:=hS380.pick16
     have hS382:=hS381.pick16
     exact rF _ (J117 true (Option.some.inj hp365) _ _ hS382)
    refine sR 2 td73 ?_
    have hS384:=hS106.pick16
    have hS385:=hS384.pick2
    have hS386:=hS385.pick16
    have hS387:=hS386.pick16
    have hS388:=hS387.pick16
    have hS389:=hS388.pick16
    have hS390:=hS389.pick16
    have hS391:=hS390.pick16
    have hS392:=hS391.pick16
    have hS393:=hS392.pick16
    have hS394:=hS393.pick16
    have hS395:=hS394.pick16
    have hS396:=hS395.pick16
    have hS397:=hS396.pick16
    have hS398:=hS397.pick16
    have hS399:=hS398.pick16
    have hS400:=hS399.pick16
    exact rF _ (J117 false (Option.some.inj hp383) _ _ hS400)
   refine sR 6 td73 ?_
   have hS402:=hS106.pick16
   have hS403:=hS402.pick2
   have hS404:=hS403.pick16
   have hS405:=hS404.pick16
   have hS406:=hS405.pick16
   have hS407:=hS406.pick16
   have hS408:=hS407.pick16
   have hS409:=hS408.pick16
   have hS410:=hS409.pick16
   have hS411:=hS410.pick16
   have hS412:=hS411.pick16
   have hS413:=hS412.pick16
   have hS414:=hS413.pick16
   have hS415:=hS414.pick16
   have hS416:=hS415.pick16
   have hS417:=hS416.pick16
   have hS418:=hS417.pick16
   exact rF _ (J117 false (Option.some.inj hp401) _ _ hS418)
  have L428 : ∀ (t419 : Int) (e423 : Sum Unit (Int × Bool × Bool × (List (ByteArray × Int)) × (List (ByteArray × Int)) × Int)),weirlaw14_ExploreStates_r.l0 a2v9v_0 a2v11vv_0m a2v11vv_2m a2v11vv_3 a2v13v a2v14v t419 = some e423 → e423 = v102 → ∀ (l422 : List Value) (w420 : World) (hS421 : St w0 Z (xblk ba2v4 3 ([.int .i64 a2v4v])::xblk ba2v5 3 ([.int .i64 a2v5v])::xblk ba2v6 4 ([.bool a2v6v])::xblk ba2v9 43 ([.slice Aa2v9v_0 a2v9v_0.length ca2v9v_0,.slice Aa2v9v_1 a2v9v_1.length ca2v9v_1,.slice Aa2v9v_2 a2v9v_2.length ca2v9v_2,.slice Aa2v9v_3 a2v9v_3.length ca2v9v_3,.slice Aa2v9v_4 a2v9v_4.length ca2v9v_4,.slice Aa2v9v_5 a2v9v_5.length ca2v9v_5,.slice Aa2v9v_6 a2v9v_6.length ca2v9v_6,.bool a2v9v_7,.map (some ba2v9v_8)])::xmap ba2v9v_8 (a2v9v_8m.map (kv Value.string (Value.int .i64)))::xblk ba2v11 33 ([.pointer (some ⟨ba2v11v,0,none⟩)])::xblk ba2v11v 49 ([.map (some ba2v11vv_0),.map (some ba2v11vv_1),.map (some ba2v11vv_2),.bool a2v11vv_3])::xmap ba2v11vv_0 (a2v11vv_0m.map (kv Value.string (Value.int .i64)))::xmap ba2v11vv_1 (a2v11vv_1m.map (kv Value.string (Value.int .i64)))::xmap ba2v11vv_2 (a2v11vv_2m.map (kv Value.string (Value.int .i64)))::xblk ba2v12 46 ([.func (.func 34) #[] #[.pointer (some ⟨ba2v12vc0,0,none⟩)]])::xblk ba2v12vc0 32 ([.string a2v12vc0v_0,.func (.func 28) #[] #[.pointer (some ⟨ba2v12vc0v_1c0,0,none⟩),.pointer (some ⟨ba2v12vc0v_1c1,0,none⟩)],.func (.func 31) #[] #[.pointer (some ⟨ba2v12vc0v_1c1,0,none⟩),.pointer (some ⟨ba2v12vc0v_1c0,0,none⟩)],.func (.func 32) #[] #[.pointer (some ⟨ba2v12vc0v_1c0,0,none⟩),.pointer (some ⟨ba2v12vc0v_1c1,0,none⟩)]])::xblk ba2v12vc0v_1c0 33 ([.pointer (some ⟨ba2v11v,0,none⟩)])::xblk ba2v12vc0v_1c1 26 ([.slice Aa2v12vc0v_1c1v_0 a2v12vc0v_1c1v.Next.length ca2v12vc0v_1c1v_0,.slice Aa2v12vc0v_1c1v_1 a2v12vc0v_1c1v.End.length ca2v12vc0v_1c1v_1,.slice Aa2v12vc0v_1c1v_2 a2v12vc0v_1c1v.Value.length ca2v12vc0v_1c1v_2,.int .i64 a2v12vc0v_1c1v.Start])::xblk ba2v13 3 ([.int .i64 a2v13v])::xblk ba2v14 3 ([.int .i64 a2v14v])::xlb La2 3 (fill (mk 165 [(4,.pointer (some ⟨ba2v4,0,none⟩)),(5,.pointer (some ⟨ba2v5,0,none⟩)),(6,.pointer (some ⟨ba2v6,0,none⟩)),(9,.pointer (some ⟨ba2v9,0,none⟩)),(11,.pointer (some ⟨ba2v11,0,none⟩)),(12,.pointer (some ⟨ba2v12,0,none⟩)),(13,.pointer (some ⟨ba2v13,0,none⟩)),(14,.pointer (some ⟨ba2v14,0,none⟩))]) la2) #[44,45] p3_7 p3_8 Da2::fs) w420),Runs Try.prog ⟨3,[],.rd La2⟩ td71 (fill (mk 165 [(4,.pointer (some ⟨ba2v4,0,none⟩)),(5,.pointer (some ⟨ba2v5,0,none⟩)),(6,.pointer (some ⟨ba2v6,0,none⟩)),(9,.pointer (some ⟨ba2v9,0,none⟩)),(11,.pointer (some ⟨ba2v11,0,none⟩)),(12,.pointer (some ⟨ba2v12,0,none⟩)),(13,.pointer (some ⟨ba2v13,0,none⟩)),(14,.pointer (some ⟨ba2v14,0,none⟩)),(17,.int .i64 t419)]) l422) w420 R:=by
   refine weirlaw14_ExploreStates_r.l0.partial_correctness a2v9v_0 a2v11vv_0m a2v11vv_2m a2v11vv_3 a2v13v a2v14v (fun t419 e423 => e423 = v102 → ∀ (l422 : List Value) (w420 : World) (hS421 : St w0 Z (xblk ba2v4 3 ([.int .i64 a2v4v])::xblk ba2v5 3 ([.int .i64 a2v5v])::xblk ba2v6 4 ([.bool a2v6v])::xblk ba2v9 43 ([.slice Aa2v9v_0 a2v9v_0.length ca2v9v_0,.slice Aa2v9v_1 a2v9v_1.length ca2v9v_1,.slice Aa2v9v_2 a2v9v_2.length ca2v9v_2,.slice Aa2v9v_3 a2v9v_3.length ca2v9v_3,.slice Aa2v9v_4 a2v9v_4.length ca2v9v_4,.slice Aa2v9v_5 a2v9v_5.length ca2v9v_5,.slice Aa2v9v_6 a2v9v_6.length ca2v9v_6,.bool a2v9v_7,.map (some ba2v9v_8)])::xmap ba2v9v_8 (a2v9v_8m.map (kv Value.string (Value.int .i64)))::xblk ba2v11 33 ([.pointer (some ⟨ba2v11v,0,none⟩)])::xblk ba2v11v 49 ([.map (some ba2v11vv_0),.map (some ba2v11vv_1),.map (some ba2v11vv_2),.bool a2v11vv_3])::xmap ba2v11vv_0 (a2v11vv_0m.map (kv Value.string (Value.int .i64)))::xmap ba2v11vv_1 (a2v11vv_1m.map (kv Value.string (Value.int .i64)))::xmap ba2v11vv_2 (a2v11vv_2m.map (kv Value.string (Value.int .i64)))::xblk ba2v12 46 ([.func (.func 34) #[] #[.pointer (some ⟨ba2v12vc0,0,none⟩)]])::xblk ba2v12vc0 32 ([.string a2v12vc0v_0,.func (.func 28) #[] #[.pointer (some ⟨ba2v12vc0v_1c0,0,none⟩),.pointer (some ⟨ba2v12vc0v_1c1,0,none⟩)],.func (.func 31) #[] #[.pointer (some ⟨ba2v12vc0v_1c1,0,none⟩),.pointer (some ⟨ba2v12vc0v_1c0,0,none⟩)],.func (.func 32) #[] #[.pointer (some ⟨ba2v12vc0v_1c0,0,none⟩),.pointer (some ⟨ba2v12vc0v_1c1,0,none⟩)]])::xblk ba2v12vc0v_1c0 33 ([.pointer (some ⟨ba2v11v,0,none⟩)])::xblk ba2v12vc0v_1c1 26 ([.slice Aa2v12vc0v_1c1v_0 a2v12vc0v_1c1v.Next.length ca2v12vc0v_1c1v_0,.slice Aa2v12vc0v_1c1v_1 a2v12vc0v_1c1v.End.length ca2v12vc0v_1c1v_1,.slice Aa2v12vc0v_1c1v_2 a2v12vc0v_1c1v.Value.length ca2v12vc0v_1c1v_2,.int .i64 a2v12vc0v_1c1v.Start])::xblk ba2v13 3 ([.int .i64 a2v13v])::xblk ba2v14 3 ([.int .i64 a2v14v])::xlb La2 3 (fill (mk 165 [(4,.pointer (some ⟨ba2v4,0,none⟩)),(5,.pointer (some ⟨ba2v5,0,none⟩)),(6,.pointer (some ⟨ba2v6,0,none⟩)),(9,.pointer (some ⟨ba2v9,0,none⟩)),(11,.pointer (some ⟨ba2v11,0,none⟩)),(12,.pointer (some ⟨ba2v12,0,none⟩)),(13,.pointer (some ⟨ba2v13,0,none⟩)),(14,.pointer (some ⟨ba2v14,0,none⟩))]) la2) #[44,45] p3_7 p3_8 Da2::fs) w420),Runs Try.prog ⟨3,[],.rd La2⟩ td71 (fill (mk 165 [(4,.pointer (some ⟨ba2v4,0,none⟩)),(5,.pointer (some ⟨ba2v5,0,none⟩)),(6,.pointer (some ⟨ba2v6,0,none⟩)),(9,.pointer (some ⟨ba2v9,0,none⟩)),(11,.pointer (some ⟨ba2v11,0,none⟩)),(12,.pointer (some ⟨ba2v12,0,none⟩)),(13,.pointer (some ⟨ba2v13,0,none⟩)),(14,.pointer (some ⟨ba2v14,0,none⟩)),(17,.int .i64 t419)]) l422) w420 R) ?_
   intro rec427 ih426 t419 e423 hb425 he424 l422 w420 hS421
   have hq429 : ∀ x,Sum.inr x = e423 → x = (q0,q1,q2,q3,q4,q5):=fun x hx => hq107 x (hx.trans he424)
   refine sR 5 (iR p3_36 2 9::td77) ?_
   refine rL1 36 (.tmp 72) 0 (hS421.blk 3 rfl) ?_
   refine sI 2 (iR p3_36 5 6::td77) 75 hb425 (fun hp432 => ?_) fun hp499 => ?_
   ·refine sR 2 (iR p3_36 7 4::td77) ?_
    refine rL1 3 (.tmp 14) 0 (hS421.blk 15 rfl) ?_
    refine sI 2 (.inRegion (opsOf p3_36) [10]::td77) 80 hp432 (fun hp435 => ?_) fun hp481 => ?_
    ·refine sR 7 (.code p3_39::.code (cd3 [1,1,1,1,1,1,1,0,1,0,0,1,0,0,1,0,1,0,1,0,1,0,1,0,0,1,0,0,1])::td79) ?_
     refine r_quiet hS421 (c:=p3_39) (id:=21) (by kernel_rfl) (by kernel_rfl) (by kernel_rfl) (is:=[0,1,2,3,4,5,6,7,8,9,10,11,12,13,14]) (by kernel_rfl) ?_
     refine qL1 3 (.tmp 13) 0 (fun w hC => (hC.blk 14 rfl)) ?_
     refine qI 1 (rg 2 13) 85 hp435 (fun hp438 => ?_) fun hp478 => ?_
     ·refine qR 1 (rg 3 12) ?_
      refine qL1 33 (.tmp 11) 0 (fun w hC => (hC.blk 5 rfl)) ?_
      refine qR 2 (rg 6 9) ?_
      refine qL1 41 (.tmp 89) 0 (fun w hC => (hC.blk 6 rfl)) ?_
      refine qR 1 (rg 8 7) ?_
      refine qL1 36 (.tmp 91) 0 (fun w hC => (hC.blk 3 rfl)) ?_
      refine qR 1 (rg 10 5) ?_
      obtain ⟨g439,hp440⟩:=ite_some hp438
      obtain ⟨b441,p442,hA443,hc444⟩:=ha2v9v_0.atF g439.1 g439.2
      refine q_indexAddr (c:=p3_39) (i:=10) (d:=(some 94)) (ty:=0) (t:=36) (e:=9) (n:=a2v9v_0.length) (cp:=ca2v9v_0) (sz:=1) (kk:=.i64) (x:=(.tmp 92)) (y:=(.tmp 93)) (b:=b441) (o':=p442) (j:=t419) (by kernel_rfl) (by kernel_rfl) (slv (by kernel_rfl) hA443) (by kernel_rfl) (by kernel_rfl) (by kernel_rfl) g439.1 g439.2 ?_
      refine qL1 9 (.tmp 94) 0 (fun w hC => (hc444.cells hC)) ?_
      refine qV (.lookup 41 (.tmp 90) (.tmp 95) false) (.int .i64 ((mget a2v11vv_0m (gt a2v9v_0 t419)).getD (0 : Int))) (fun w hC o ho _ => x_lookup1 (eK:=Value.string) (eV:=(Value.int .i64)) (dk:=.string) (b:=ba2v11vv_0) (t:=41) (kt:=9) (et:=3) (m:=a2v11vv_0m) (kk:=(gt a2v9v_0 t419)) (z:=(0 : Int)) (hC.at 7 rfl) key_str (by kernel_rfl) (by kernel_rfl) (by kernel_rfl) (by kernel_rfl) (by kernel_rfl) ho) ?_
      refine qI 1 [14] 97 hp440 (fun hp447 => ?_) fun hp475 => ?_
      ·refine qR 1 [] ?_
       refine Qs.nil ?_
       intro w448 hS449
       refine sR 3 (.inRegion (opsOf (cd3 [1,1,1,1,1,1,1,0,1,0,0,1,0,0,1,0,1,0,1,0,1,0,1,0,0,1,0,0,1,0,0])) [0]::.code p3_43::td79) ?_
       have hS450:=hS449.pick2
       refine rS 4 (.tmp 6) (.const (.bool false)) 0 (.bool false) [.bool false] [.bool false] hS450 ?_
       intro w451 hS452
       refine sR 1 (.code p3_43::td79) ?_
       refine r_isret (c:=p3_43) (by kernel_rfl) ?_
       have hS453:=hS452.pick16
       refine r_rret hS453 [p3_9,p3_10] 0 (by kernel_rfl) ?_
       intro w454 hS455
       have hS456 : St w0 Z (xlp La2 3 (fill (mk 165 [(4,.pointer (some ⟨ba2v4,0,none⟩)),(5,.pointer (some ⟨ba2v5,0,none⟩)),(6,.pointer (some ⟨ba2v6,0,none⟩)),(9,.pointer (some ⟨ba2v9,0,none⟩)),(11,.pointer (some ⟨ba2v11,0,none⟩)),(12,.pointer (some ⟨ba2v12,0,none⟩)),(13,.pointer (some ⟨ba2v13,0,none⟩)),(14,.pointer (some ⟨ba2v14,0,none⟩))]) la2) #[44,45] p3_7 p3_8 Da2 [p3_9,p3_10] 1::xblk ba2v6 4 ([.bool false])::xblk ba2v4 3 ([.int .i64 a2v4v])::xblk ba2v5 3 ([.int .i64 a2v5v])::xblk ba2v9 43 ([.slice Aa2v9v_0 a2v9v_0.length ca2v9v_0,.slice Aa2v9v_1 a2v9v_1.length ca2v9v_1,.slice Aa2v9v_2 a2v9v_2.length ca2v9v_2,.slice Aa2v9v_3 a2v9v_3.length ca2v9v_3,.slice Aa2v9v_4 a2v9v_4.length ca2v9v_4,.slice Aa2v9v_5 a2v9v_5.length ca2v9v_5,.slice Aa2v9v_6 a2v9v_6.length ca2v9v_6,.bool a2v9v_7,.map (some ba2v9v_8)])::xmap ba2v9v_8 (a2v9v_8m.map (kv Value.string (Value.int .i64)))::xblk ba2v11 33 ([.pointer (some ⟨ba2v11v,0,none⟩)])::xblk ba2v11v 49 ([.map (some ba2v11vv_0),.map (some ba2v11vv_1),.map (some ba2v11vv_2),.bool a2v11vv_3])::xmap ba2v11vv_0 (a2v11vv_0m.map (kv Value.string (Value.int .i64)))::xmap ba2v11vv_1 (a2v11vv_1m.map (kv Value.string (Value.int .i64)))::xmap ba2v11vv_2 (a2v11vv_2m.map (kv Value.string (Value.int .i64)))::xblk ba2v12 46 ([.func (.func 34) #[] #[.pointer (some ⟨ba2v12vc0,0,none⟩)]])::xblk ba2v12vc0 32 ([.string a2v12vc0v_0,.func (.func 28) #[] #[.pointer (some ⟨ba2v12vc0v_1c0,0,none⟩),.pointer (some ⟨ba2v12vc0v_1c1,0,none⟩)],.func (.func 31) #[] #[.pointer (some ⟨ba2v12vc0v_1c1,0,none⟩),.pointer (some ⟨ba2v12vc0v_1c0,0,none⟩)],.func (.func 32) #[] #[.pointer (some ⟨ba2v12vc0v_1c0,0,none⟩),.pointer (some ⟨ba2v12vc0v_1c1,0,none⟩)]])::xblk ba2v12vc0v_1c0 33 ([.pointer (some ⟨ba2v11v,0,none⟩)])::xblk ba2v12vc0v_1c1 26 ([.slice Aa2v12vc0v_1c1v_0 a2v12vc0v_1c1v.Next.length ca2v12vc0v_1c1v_0,.slice Aa2v12vc0v_1c1v_1 a2v12vc0v_1c1v.End.length ca2v12vc0v_1c1v_1,.slice Aa2v12vc0v_1c1v_2 a2v12vc0v_1c1v.Value.length ca2v12vc0v_1c1v_2,.int .i64 a2v12vc0v_1c1v.Start])::xblk ba2v13 3 ([.int .i64 a2v13v])::xblk ba2v14 3 ([.int .i64 a2v14v])::fs) w454:=hS455
       have hS457:=hS456.pick16
       have hS458:=hS457.pick16
       have hS459:=hS458.pick16
       have hS460:=hS459.pick16
       have hS461:=hS460.pick16
       have hS462:=hS461.pick16
       have hS463:=hS462.pick16
       have hS464:=hS463.pick16
       have hS465:=hS464.pick16
       have hS466:=hS465.pick16
       have hS467:=hS466.pick16
       have hS468:=hS467.pick16
       have hS469:=hS468.pick16
       have hS470:=hS469.pick14
       have hS471:=hS470.pick16
       have hS472:=hS471.pick16
       have hS473:=hS472.pick16
       cases hq429 _ (Option.some.inj hp447)
       exact hR _ _ ⟨rfl,hS473⟩
      refine qR 1 [] ?_
      refine Qs.nil ?_
      intro w476 hS477
      refine sR 8 td70 ?_
      refine sR 1 td71 ?_
      exact rF _ (ih426 (IntKind.i64.wrap (t419 + 1)) _ hp475 he424 _ _ hS477)
     refine qR 13 [] ?_
     refine Qs.nil ?_
     intro w479 hS480
     refine sR 8 td70 ?_
     refine sR 1 td71 ?_
     exact rF _ (ih426 (IntKind.i64.wrap (t419 + 1)) _ hp478 he424 _ _ hS480)
    refine sR 4 td68 ?_
    have hS482:=hS421.pick5
    have hS483:=hS482.pick16
    have hS484:=hS483.pick16
    have hS485:=hS484.pick16
    have hS486:=hS485.pick16
    have hS487:=hS486.pick13
    have hS488:=hS487.pick13
    have hS489:=hS488.pick13
    have hS490:=hS489.pick13
    have hS491:=hS490.pick16
    have hS492:=hS491.pick16
    have hS493:=hS492.pick16
    have hS494:=hS493.pick16
    have hS495:=hS494.pick16
    have hS496:=hS495.pick16
    have hS497:=hS496.pick16
    have hS498:=hS497.pick16
    exact rF _ (J108 ((Option.some.inj hp481).trans he424) _ _ hS498)
   refine sR 9 td68 ?_
   have hS500:=hS421.pick5
   have hS501:=hS500.pick16
   have hS502:=hS501.pick16
   have hS503:=hS502.pick16
   have hS504:=hS503.pick16
   have hS505:=hS504.pick13
   have hS506:=hS505.pick13
   have hS507:=hS506.pick13
   have hS508:=hS507.pick13
   have hS509:=hS508.pick16
   have hS510:=hS509.pick16
   have hS511:=hS510.pick16
   have hS512:=hS511.pick16
   have hS513:=hS512.pick16
   have hS514:=hS513.pick16
   have hS515:=hS514.pick16
   have hS516:=hS515.pick16
   exact rF _ (J108 ((Option.some.inj hp499).trans he424) _ _ hS516)
  have hS517:=hS2.pick16
  have hS518:=hS517.pick16
  have hS519:=hS518.pick16
  have hS520:=hS519.pick16
  have hS521:=hS520.pick16
  have hS522:=hS521.pick16
  have hS523:=hS522.pick16
  have hS524:=hS523.pick16
  have hS525:=hS524.pick16
  have hS526:=hS525.pick16
  have hS527:=hS526.pick16
  have hS528:=hS527.pick16
  have hS529:=hS528.pick16
  have hS530:=hS529.pick16
  have hS531:=hS530.pick16
  have hS532:=hS531.pick16
  exact rF _ (L428 (IntKind.i64.wrap (a2v14v + 1)) _ hv103 rfl _ _ hS532)

abbrev td80:List Item:=[.code (cd34 [1,1,0,1,0,1]),.inBlock 1]
def explore_States_1_r.f (a0 : ByteArray) (a1m : List (ByteArray × explore_visit)) (a2v2vc0v4v a2v2vc0v5v : Int) (a2v2vc0v6v : Bool) (a2v2vc0v9v_0 : List ByteArray) (a2v2vc0v9v_1 : List Int) (a2v2vc0v9v_2 : List (List weirref14_Move)) (a2v2vc0v9v_3 : List Bool) (a2v2vc0v9v_4 : List api_Final) (a2v2vc0v9v_5 : List Int) (a2v2vc0v9v_6 : List api_Pick) (a2v2vc0v9v_7 : Bool) (a2v2vc0v9v_8m a2v2vc0v11vv_0m : List (ByteArray × Int)) (a2v2vc0v11vv_1m a2v2vc0v11vv_2m : List (ByteArray × Int)) (a2v2vc0v11vv_3 : Bool) (a2v2vc0v12vc0v_0 : ByteArray) (a2v2vc0v12vc0v_1c1v : weirlaw14_Net) (a2v2vc0v13v a2v2vc0v14v : Int) : Option (Int × Int × Bool × Bool × (List (ByteArray × Int)) × (List (ByteArray × Int)) × Int) :=
  (weirlaw14_ExploreStates_r.f a0 (((mget a1m a0).getD (⟨0,(⟨#[]⟩ : ByteArray),⟨0,0,0⟩⟩ : explore_visit)).depth) a2v2vc0v4v a2v2vc0v5v a2v2vc0v6v a2v2vc0v9v_0 a2v2vc0v9v_1 a2v2vc0v9v_2 a2v2vc0v9v_3 a2v2vc0v9v_4 a2v2vc0v9v_5 a2v2vc0v9v_6 a2v2vc0v9v_7 a2v2vc0v9v_8m a2v2vc0v11vv_0m a2v2vc0v11vv_1m a2v2vc0v11vv_2m a2v2vc0v11vv_3 a2v2vc0v12vc0v_0 a2v2vc0v12vc0v_1c1v a2v2vc0v13v a2v2vc0v14v >>= (fun (t4,t5,t6,t7,t8,t9) => (if decide (t4 = 0) = true then some ((0,0,t5,t6,t7,t8,t9)) else some ((1,t4,t5,t6,t7,t8,t9)))))
theorem explore_States_1_r.ok (a0 : ByteArray) (a1m : List (ByteArray × explore_visit)) (a2v2vc0v4v a2v2vc0v5v : Int) (a2v2vc0v6v : Bool) (a2v2vc0v9v_0 : List ByteArray) (a2v2vc0v9v_1 : List Int) (a2v2vc0v9v_2 : List (List weirref14_Move)) (a2v2vc0v9v_3 : List Bool) (a2v2vc0v9v_4 : List api_Final) (a2v2vc0v9v_5 : List Int) (a2v2vc0v9v_6 : List api_Pick) (a2v2vc0v9v_7 : Bool) (a2v2vc0v9v_8m a2v2vc0v11vv_0m : List (ByteArray × Int)) (a2v2vc0v11vv_1m a2v2vc0v11vv_2m : List (ByteArray × Int)) (a2v2vc0v11vv_3 : Bool) (a2v2vc0v12vc0v_0 : ByteArray) (a2v2vc0v12vc0v_1c1v : weirlaw14_Net) (a2v2vc0v13v a2v2vc0v14v : Int) (ba1 La2 Da2 : Nat) (la2 : List Value) (ba2v2 La2v2vc0 Da2v2vc0 : Nat) (la2v2vc0 : List Value) (ba2v2vc0v4 ba2v2vc0v5 : Nat) (ba2v2vc0v6 ba2v2vc0v9 : Nat) (Aa2v2vc0v9v_0 : Option Addr) (ca2v2vc0v9v_0 : Nat) (Aa2v2vc0v9v_1 : Option Addr) (ca2v2vc0v9v_1 : Nat) (Aa2v2vc0v9v_2 : Option Addr) (ca2v2vc0v9v_2 : Nat) (Aa2v2vc0v9v_3 : Option Addr) (ca2v2vc0v9v_3 : Nat) (Aa2v2vc0v9v_4 : Option Addr) (ca2v2vc0v9v_4 : Nat) (Aa2v2vc0v9v_5 : Option Addr) (ca2v2vc0v9v_5 : Nat) (Aa2v2vc0v9v_6 : Option Addr) (ca2v2vc0v9v_6 ba2v2vc0v9v_8 : Nat) (ba2v2vc0v11 ba2v2vc0v11v : Nat) (ba2v2vc0v11vv_0 ba2v2vc0v11vv_1 : Nat) (ba2v2vc0v11vv_2 ba2v2vc0v12 : Nat) (ba2v2vc0v12vc0 ba2v2vc0v12vc0v_1c0 ba2v2vc0v12vc0v_1c1 : Nat) (Aa2v2vc0v12vc0v_1c1v_0 : Option Addr) (ca2v2vc0v12vc0v_1c1v_0 : Nat) (Aa2v2vc0v12vc0v_1c1v_1 : Option Addr) (ca2v2vc0v12vc0v_1c1v_1 : Nat) (Aa2v2vc0v12vc0v_1c1v_2 : Option Addr) (ca2v2vc0v12vc0v_1c1v_2 ba2v2vc0v13 ba2v2vc0v14 : Nat) (hS0 : St w0 Z (xmap ba1 (a1m.map (kv Value.string (fun v => Value.agg (enc_explore_visit v).toArray)))::xlp La2 34 (fill (mk 17 [(2,.pointer (some ⟨ba2v2,0,none⟩))]) la2) #[7,8] p34_0 p34_1 Da2 [p34_2] 0::xblk ba2v2 96 ([.func (.yield La2v2vc0) #[] #[]])::xlp La2v2vc0 3 (fill (mk 165 [(4,.pointer (some ⟨ba2v2vc0v4,0,none⟩)),(5,.pointer (some ⟨ba2v2vc0v5,0,none⟩)),(6,.pointer (some ⟨ba2v2vc0v6,0,none⟩)),(9,.pointer (some ⟨ba2v2vc0v9,0,none⟩)),(11,.pointer (some ⟨ba2v2vc0v11,0,none⟩)),(12,.pointer (some ⟨ba2v2vc0v12,0,none⟩)),(13,.pointer (some ⟨ba2v2vc0v13,0,none⟩)),(14,.pointer (some ⟨ba2v2vc0v14,0,none⟩))]) la2v2vc0) #[44,45] p3_7 p3_8 Da2v2vc0 [p3_9,p3_10] 0::xblk ba2v2vc0v4 3 ([.int .i64 a2v2vc0v4v])::xblk ba2v2vc0v5 3 ([.int .i64 a2v2vc0v5v])::xblk ba2v2vc0v6 4 ([.bool a2v2vc0v6v])::xblk ba2v2vc0v9 43 ([.slice Aa2v2vc0v9v_0 a2v2vc0v9v_0.length ca2v2vc0v9v_0,.slice Aa2v2vc0v9v_1 a2v2vc0v9v_1.length ca2v2vc0v9v_1,.slice Aa2v2vc0v9v_2 a2v2vc0v9v_2.length ca2v2vc0v9v_2,.slice Aa2v2vc0v9v_3 a2v2vc0v9v_3.length ca2v2vc0v9v_3,.slice Aa2v2vc0v9v_4 a2v2vc0v9v_4.length ca2v2vc0v9v_4,.slice Aa2v2vc0v9v_5 a2v2vc0v9v_5.length ca2v2vc0v9v_5,.slice Aa2v2vc0v9v_6 a2v2vc0v9v_6.length ca2v2vc0v9v_6,.bool a2v2vc0v9v_7,.map (some ba2v2vc0v9v_8)])::xmap ba2v2vc0v9v_8 (a2v2vc0v9v_8m.map (kv Value.string (Value.int .i64)))::xblk ba2v2vc0v11 33 ([.pointer (some ⟨ba2v2vc0v11v,0,none⟩)])::xblk ba2v2vc0v11v 49 ([.map (some ba2v2vc0v11vv_0),.map (some ba2v2vc0v11vv_1),.map (some ba2v2vc0v11vv_2),.bool a2v2vc0v11vv_3])::xmap ba2v2vc0v11vv_0 (a2v2vc0v11vv_0m.map (kv Value.string (Value.int .i64)))::xmap ba2v2vc0v11vv_1 (a2v2vc0v11vv_1m.map (kv Value.string (Value.int .i64)))::xmap ba2v2vc0v11vv_2 (a2v2vc0v11vv_2m.map (kv Value.string (Value.int .i64)))::xblk ba2v2vc0v12 46 ([.func (.func 34) #[] #[.pointer (some ⟨ba2v2vc0v12vc0,0,none⟩)]])::xblk ba2v2vc0v12vc0 32 ([.string a2v2vc0v12vc0v_0,.func (.func 28) #[] #[.pointer (some ⟨ba2v2vc0v12vc0v_1c0,0,none⟩),.pointer (some ⟨ba2v2vc0v12vc0v_1c1,0,none⟩)],.func (.func 31) #[] #[.pointer (some ⟨ba2v2vc0v12vc0v_1c1,0,none⟩),.pointer (some ⟨ba2v2vc0v12vc0v_1c0,0,none⟩)],.func (.func 32) #[] #[.pointer (some ⟨ba2v2vc0v12vc0v_1c0,0,none⟩),.pointer (some ⟨ba2v2vc0v12vc0v_1c1,0,none⟩)]])::xblk ba2v2vc0v12vc0v_1c0 33 ([.pointer (some ⟨ba2v2vc0v11v,0,none⟩)])::xblk ba2v2vc0v12vc0v_1c1 26 ([.slice Aa2v2vc0v12vc0v_1c1v_0 a2v2vc0v12vc0v_1c1v.Next.length ca2v2vc0v12vc0v_1c1v_0,.slice Aa2v2vc0v12vc0v_1c1v_1 a2v2vc0v12vc0v_1c1v.End.length ca2v2vc0v12vc0v_1c1v_1,.slice Aa2v2vc0v12vc0v_1c1v_2 a2v2vc0v12vc0v_1c1v.Value.length ca2v2vc0v12vc0v_1c1v_2,.int .i64 a2v2vc0v12vc0v_1c1v.Start])::xblk ba2v2vc0v13 3 ([.int .i64 a2v2vc0v13v])::xblk ba2v2vc0v14 3 ([.int .i64 a2v2vc0v14v])::fs) w) (ha2v2vc0v9v_0 : SlZ (flat encS) 1 Z Aa2v2vc0v9v_0 ca2v2vc0v9v_0 a2v2vc0v9v_0) (ha2v2vc0v9v_1 : SlZ (flat (encI .i64)) 1 Z Aa2v2vc0v9v_1 ca2v2vc0v9v_1 a2v2vc0v9v_1) (ha2v2vc0v9v_2 : SlZ (repL (flat enc_weirref14_Move) 4) 1 Z Aa2v2vc0v9v_2 ca2v2vc0v9v_2 a2v2vc0v9v_2) (ha2v2vc0v9v_3 : SlZ (flat encB) 1 Z Aa2v2vc0v9v_3 ca2v2vc0v9v_3 a2v2vc0v9v_3) (ha2v2vc0v9v_4 : SlZ (flat enc_api_Final) 49 Z Aa2v2vc0v9v_4 ca2v2vc0v9v_4 a2v2vc0v9v_4) (ha2v2vc0v9v_5 : SlZ (flat (encI .i64)) 1 Z Aa2v2vc0v9v_5 ca2v2vc0v9v_5 a2v2vc0v9v_5) (ha2v2vc0v9v_6 : SlZ (flat enc_api_Pick) 3 Z Aa2v2vc0v9v_6 ca2v2vc0v9v_6 a2v2vc0v9v_6) (ha2v2vc0v12vc0v_1c1v_0 : SlZ (repL (flat (encI .i64)) 1) 1 Z Aa2v2vc0v12vc0v_1c1v_0 ca2v2vc0v12vc0v_1c1v_0 a2v2vc0v12vc0v_1c1v.Next) (ha2v2vc0v12vc0v_1c1v_1 : SlZ (flat encB) 1 Z Aa2v2vc0v12vc0v_1c1v_1 ca2v2vc0v12vc0v_1c1v_1 a2v2vc0v12vc0v_1c1v.End) (ha2v2vc0v12vc0v_1c1v_2 : SlZ (flat (encI .i64)) 1 Z Aa2v2vc0v12vc0v_1c1v_2 ca2v2vc0v12vc0v_1c1v_2 a2v2vc0v12vc0v_1c1v.Value) {q0 q1 : Int} {q2 q3 : Bool} {q4 q5 : List (ByteArray × Int)} {q6 : Int} (hp0 : explore_States_1_r.f a0 a1m a2v2vc0v4v a2v2vc0v5v a2v2vc0v6v a2v2vc0v9v_0 a2v2vc0v9v_1 a2v2vc0v9v_2 a2v2vc0v9v_3 a2v2vc0v9v_4 a2v2vc0v9v_5 a2v2vc0v9v_6 a2v2vc0v9v_7 a2v2vc0v9v_8m a2v2vc0v11vv_0m a2v2vc0v11vv_1m a2v2vc0v11vv_2m a2v2vc0v11vv_3 a2v2vc0v12vc0v_0 a2v2vc0v12vc0v_1c1v a2v2vc0v13v a2v2vc0v14v = some (q0,q1,q2,q3,q4,q5,q6)) :
    Rounds Try.prog La2 34 (fill (mk 17 [(2,.pointer (some ⟨ba2v2,0,none⟩)),(7,.string a0),(8,.map (some ba1))]) la2).toArray p34_0 p34_1 w (fun e w' => e = .returned (.bool (decide (q0 = 0))) ∧ St w0 Z (xmap ba1 (a1m.map (kv Value.string (fun v => Value.agg (enc_explore_visit v).toArray)))::xlp La2 34 (fill (mk 17 [(2,.pointer (some ⟨ba2v2,0,none⟩))]) la2) #[7,8] p34_0 p34_1 Da2 [p34_2] q0::xblk ba2v2 96 ([.func (.yield La2v2vc0) #[] #[]])::xlp La2v2vc0 3 (fill (mk 165 [(4,.pointer (some ⟨ba2v2vc0v4,0,none⟩)),(5,.pointer (some ⟨ba2v2vc0v5,0,none⟩)),(6,.pointer (some ⟨ba2v2vc0v6,0,none⟩)),(9,.pointer (some ⟨ba2v2vc0v9,0,none⟩)),(11,.pointer (some ⟨ba2v2vc0v11,0,none⟩)),(12,.pointer (some ⟨ba2v2vc0v12,0,none⟩)),(13,.pointer (some ⟨ba2v2vc0v13,0,none⟩)),(14,.pointer (some ⟨ba2v2vc0v14,0,none⟩))]) la2v2vc0) #[44,45] p3_7 p3_8 Da2v2vc0 [p3_9,p3_10] q1::xblk ba2v2vc0v4 3 ([.int .i64 a2v2vc0v4v])::xblk ba2v2vc0v5 3 ([.int .i64 a2v2vc0v5v])::xblk ba2v2vc0v6 4 ([.bool q2])::xblk ba2v2vc0v9 43 ([.slice Aa2v2vc0v9v_0 a2v2vc0v9v_0.length ca2v2vc0v9v_0,.slice Aa2v2vc0v9v_1 a2v2vc0v9v_1.length ca2v2vc0v9v_1,.slice Aa2v2vc0v9v_2 a2v2vc0v9v_2.length ca2v2vc0v9v_2,.slice Aa2v2vc0v9v_3 a2v2vc0v9v_3.length ca2v2vc0v9v_3,.slice Aa2v2vc0v9v_4 a2v2vc0v9v_4.length ca2v2vc0v9v_4,.slice Aa2v2vc0v9v_5 a2v2vc0v9v_5.length ca2v2vc0v9v_5,.slice Aa2v2vc0v9v_6 a2v2vc0v9v_6.length ca2v2vc0v9v_6,.bool a2v2vc0v9v_7,.map (some ba2v2vc0v9v_8)])::xmap ba2v2vc0v9v_8 (a2v2vc0v9v_8m.map (kv Value.string (Value.int .i64)))::xblk ba2v2vc0v11 33 ([.pointer (some ⟨ba2v2vc0v11v,0,none⟩)])::xblk ba2v2vc0v11v 49 ([.map (some ba2v2vc0v11vv_0),.map (some ba2v2vc0v11vv_1),.map (some ba2v2vc0v11vv_2),.bool q3])::xmap ba2v2vc0v11vv_0 (q4.map (kv Value.string (Value.int .i64)))::xmap ba2v2vc0v11vv_1 (a2v2vc0v11vv_1m.map (kv Value.string (Value.int .i64)))::xmap ba2v2vc0v11vv_2 (q5.map (kv Value.string (Value.int .i64)))::xblk ba2v2vc0v12 46 ([.func (.func 34) #[] #[.pointer (some ⟨ba2v2vc0v12vc0,0,none⟩)]])::xblk ba2v2vc0v12vc0 32 ([.string a2v2vc0v12vc0v_0,.func (.func 28) #[] #[.pointer (some ⟨ba2v2vc0v12vc0v_1c0,0,none⟩),.pointer (some ⟨ba2v2vc0v12vc0v_1c1,0,none⟩)],.func (.func 31) #[] #[.pointer (some ⟨ba2v2vc0v12vc0v_1c1,0,none⟩),.pointer (some ⟨ba2v2vc0v12vc0v_1c0,0,none⟩)],.func (.func 32) #[] #[.pointer (some ⟨ba2v2vc0v12vc0v_1c0,0,none⟩),.pointer (some ⟨ba2v2vc0v12vc0v_1c1,0,none⟩)]])::xblk ba2v2vc0v12vc0v_1c0 33 ([.pointer (some ⟨ba2v2vc0v11v,0,none⟩)])::xblk ba2v2vc0v12vc0v_1c1 26 ([.slice Aa2v2vc0v12vc0v_1c1v_0 a2v2vc0v12vc0v_1c1v.Next.length ca2v2vc0v12vc0v_1c1v_0,.slice Aa2v2vc0v12vc0v_1c1v_1 a2v2vc0v12vc0v_1c1v.End.length ca2v2vc0v12vc0v_1c1v_1,.slice Aa2v2vc0v12vc0v_1c1v_2 a2v2vc0v12vc0v_1c1v.Value.length ca2v2vc0v12vc0v_1c1v_2,.int .i64 a2v2vc0v12vc0v_1c1v.Start])::xblk ba2v2vc0v13 3 ([.int .i64 a2v2vc0v13v])::xblk ba2v2vc0v14 3 ([.int .i64 q6])::fs) w'):=by
  refine rounds_abs ?_; intro R hR
  unfold explore_States_1_r.f at hp0
  refine rounds_of_runs ?_
  refine sR 7 [.beginRound,.code p34_1] ?_
  have hS1:=hS0.pick1
  refine r_begin hS1 ?_
  intro w2 hS3
  refine sR 3 (iR p34_3 0 8::td80) ?_
  refine rL1 96 (.tmp 2) 0 (hS3.blk 2 rfl) ?_
  refine sR 3 (iR p34_3 4 4::td80) ?_
  refine rV (.lookup 100 (.tmp 11) (.tmp 12) false) (.agg (enc_explore_visit ((mget a1m a0).getD (⟨0,(⟨#[]⟩ : ByteArray),⟨0,0,0⟩⟩ : explore_visit))).toArray) (fun o ho _ => x_lookup1 (eK:=Value.string) (eV:=(fun v => Value.agg (enc_explore_visit v).toArray)) (dk:=.string) (b:=ba1) (t:=100) (kt:=9) (et:=102) (m:=a1m) (kk:=a0) (z:=(⟨0,(⟨#[]⟩ : ByteArray),⟨0,0,0⟩⟩ : explore_visit)) (hS3.at 1 rfl) key_str (by kernel_rfl) (by kernel_rfl) (by kernel_rfl) (by kernel_rfl) (by kernel_rfl) ho) ?_
  refine sR 1 (.inRegion (opsOf p34_3) [6,7]::td80) ?_
  obtain ⟨⟨t4,t5,t6,t7,t8,t9⟩,hr10,hp11⟩:=bind_some' hp0
  try dsimp only at hp11
  have hS22:=hS3.pick19
  have hS23:=hS22.pick19
  have hS24:=hS23.pick19
  have hS25:=hS24.pick19
  have hS26:=hS25.pick19
  have hS27:=hS26.pick19
  have hS28:=hS27.pick19
  have hS29:=hS28.pick19
  have hS30:=hS29.pick19
  have hS31:=hS30.pick19
  have hS32:=hS31.pick19
  have hS33:=hS32.pick19
  have hS34:=hS33.pick19
  have hS35:=hS34.pick19
  have hS36:=hS35.pick19
  have hS37:=hS36.pick19
  have hS38:=hS37.pick19
  refine r_yield (c:=p34_3) (i:=6) (d:=(some 15)) (args:=#[.string a0,.int .i64 (((mget a1m a0).getD (⟨0,(⟨#[]⟩ : ByteArray),⟨0,0,0⟩⟩ : explore_visit)).depth)]) (hS38.lp 0 rfl) (by kernel_rfl) (by kernel_rfl) (by kernel_rfl) (by kernel_rfl) (weirlaw14_ExploreStates_r.ok a0 (((mget a1m a0).getD (⟨0,(⟨#[]⟩ : ByteArray),⟨0,0,0⟩⟩ : explore_visit)).depth) a2v2vc0v4v a2v2vc0v5v a2v2vc0v6v a2v2vc0v9v_0 a2v2vc0v9v_1 a2v2vc0v9v_2 a2v2vc0v9v_3 a2v2vc0v9v_4 a2v2vc0v9v_5 a2v2vc0v9v_6 a2v2vc0v9v_7 a2v2vc0v9v_8m a2v2vc0v11vv_0m a2v2vc0v11vv_1m a2v2vc0v11vv_2m a2v2vc0v11vv_3 a2v2vc0v12vc0v_0 a2v2vc0v12vc0v_1c1v a2v2vc0v13v a2v2vc0v14v La2v2vc0 Da2v2vc0 la2v2vc0 ba2v2vc0v4 ba2v2vc0v5 ba2v2vc0v6 ba2v2vc0v9 Aa2v2vc0v9v_0 ca2v2vc0v9v_0 Aa2v2vc0v9v_1 ca2v2vc0v9v_1 Aa2v2vc0v9v_2 ca2v2vc0v9v_2 Aa2v2vc0v9v_3 ca2v2vc0v9v_3 Aa2v2vc0v9v_4 ca2v2vc0v9v_4 Aa2v2vc0v9v_5 ca2v2vc0v9v_5 Aa2v2vc0v9v_6 ca2v2vc0v9v_6 ba2v2vc0v9v_8 ba2v2vc0v11 ba2v2vc0v11v ba2v2vc0v11vv_0 ba2v2vc0v11vv_1 ba2v2vc0v11vv_2 ba2v2vc0v12 ba2v2vc0v12vc0 ba2v2vc0v12vc0v_1c0 ba2v2vc0v12vc0v_1c1 Aa2v2vc0v12vc0v_1c1v_0 ca2v2vc0v12vc0v_1c1v_0 Aa2v2vc0v12vc0v_1c1v_1 ca2v2vc0v12vc0v_1c1v_1 Aa2v2vc0v12vc0v_1c1v_2 ca2v2vc0v12vc0v_1c1v_2 ba2v2vc0v13 ba2v2vc0v14 hS38 ha2v2vc0v9v_0 ha2v2vc0v9v_1 ha2v2vc0v9v_2 ha2v2vc0v9v_3 ha2v2vc0v9v_4 ha2v2vc0v9v_5 ha2v2vc0v9v_6 ha2v2vc0v12vc0v_1c1v_0 ha2v2vc0v12vc0v_1c1v_1 ha2v2vc0v12vc0v_1c1v_2 hr10) rfl (by kernel_rfl) ?_
  rintro _ w39 ⟨rfl,hS40⟩
  refine ⟨_,rfl,?_⟩
  refine r_split (decide (t4 = 0)) (fun h41 => ?_) (fun h42 => ?_)
  ·have hp43:=ite_t hp11 h41
   obtain rfl:=of_decide_eq_true h41
   refine sR 5 [] ?_
   have hS44:=hS40.pick17
   refine r_rend hS44 [p34_2] ?_
   intro w45 hS46
   have hS47 : St w0 Z (xlp La2 34 (fill (mk 17 [(2,.pointer (some ⟨ba2v2,0,none⟩))]) la2) #[7,8] p34_0 p34_1 Da2 [p34_2] 0::xlp La2v2vc0 3 (fill (mk 165 [(4,.pointer (some ⟨ba2v2vc0v4,0,none⟩)),(5,.pointer (some ⟨ba2v2vc0v5,0,none⟩)),(6,.pointer (some ⟨ba2v2vc0v6,0,none⟩)),(9,.pointer (some ⟨ba2v2vc0v9,0,none⟩)),(11,.pointer (some ⟨ba2v2vc0v11,0,none⟩)),(12,.pointer (some ⟨ba2v2vc0v12,0,none⟩)),(13,.pointer (some ⟨ba2v2vc0v13,0,none⟩)),(14,.pointer (some ⟨ba2v2vc0v14,0,none⟩))]) la2v2vc0) #[44,45] p3_7 p3_8 Da2v2vc0 [p3_9,p3_10] 0::xblk ba2v2vc0v4 3 ([.int .i64 a2v2vc0v4v])::xblk ba2v2vc0v5 3 ([.int .i64 a2v2vc0v5v])::xblk ba2v2vc0v6 4 ([.bool t5])::xblk ba2v2vc0v9 43 ([.slice Aa2v2vc0v9v_0 a2v2vc0v9v_0.length ca2v2vc0v9v_0,.slice Aa2v2vc0v9v_1 a2v2vc0v9v_1.length ca2v2vc0v9v_1,.slice Aa2v2vc0v9v_2 a2v2vc0v9v_2.length ca2v2vc0v9v_2,.slice Aa2v2vc0v9v_3 a2v2vc0v9v_3.length ca2v2vc0v9v_3,.slice Aa2v2vc0v9v_4 a2v2vc0v9v_4.length ca2v2vc0v9v_4,.slice Aa2v2vc0v9v_5 a2v2vc0v9v_5.length ca2v2vc0v9v_5,.slice Aa2v2vc0v9v_6 a2v2vc0v9v_6.length ca2v2vc0v9v_6,.bool a2v2vc0v9v_7,.map (some ba2v2vc0v9v_8)])::xmap ba2v2vc0v9v_8 (a2v2vc0v9v_8m.map (kv Value.string (Value.int .i64)))::xblk ba2v2vc0v11 33 ([.pointer (some ⟨ba2v2vc0v11v,0,none⟩)])::xblk ba2v2vc0v11v 49 ([.map (some ba2v2vc0v11vv_0),.map (some ba2v2vc0v11vv_1),.map (some ba2v2vc0v11vv_2),.bool t6])::xmap ba2v2vc0v11vv_0 (t7.map (kv Value.string (Value.int .i64)))::xmap ba2v2vc0v11vv_1 (a2v2vc0v11vv_1m.map (kv Value.string (Value.int .i64)))::xmap ba2v2vc0v11vv_2 (t8.map (kv Value.string (Value.int .i64)))::xblk ba2v2vc0v12 46 ([.func (.func 34) #[] #[.pointer (some ⟨ba2v2vc0v12vc0,0,none⟩)]])::xblk ba2v2vc0v12vc0 32 ([.string a2v2vc0v12vc0v_0,.func (.func 28) #[] #[.pointer (some ⟨ba2v2vc0v12vc0v_1c0,0,none⟩),.pointer (some ⟨ba2v2vc0v12vc0v_1c1,0,none⟩)],.func (.func 31) #[] #[.pointer (some ⟨ba2v2vc0v12vc0v_1c1,0,none⟩),.pointer (some ⟨ba2v2vc0v12vc0v_1c0,0,none⟩)],.func (.func 32) #[] #[.pointer (some ⟨ba2v2vc0v12vc0v_1c0,0,none⟩),.pointer (some ⟨ba2v2vc0v12vc0v_1c1,0,none⟩)]])::xblk ba2v2vc0v12vc0v_1c0 33 ([.pointer (some ⟨ba2v2vc0v11v,0,none⟩)])::xblk ba2v2vc0v12vc0v_1c1 26 ([.slice Aa2v2vc0v12vc0v_1c1v_0 a2v2vc0v12vc0v_1c1v.Next.length ca2v2vc0v12vc0v_1c1v_0,.slice Aa2v2vc0v12vc0v_1c1v_1 a2v2vc0v12vc0v_1c1v.End.length ca2v2vc0v12vc0v_1c1v_1,.slice Aa2v2vc0v12vc0v_1c1v_2 a2v2vc0v12vc0v_1c1v.Value.length ca2v2vc0v12vc0v_1c1v_2,.int .i64 a2v2vc0v12vc0v_1c1v.Start])::xblk ba2v2vc0v13 3 ([.int .i64 a2v2vc0v13v])::xblk ba2v2vc0v14 3 ([.int .i64 t9])::xmap ba1 (a1m.map (kv Value.string (fun v => Value.agg (enc_explore_visit v).toArray)))::xblk ba2v2 96 ([.func (.yield La2v2vc0) #[] #[]])::fs) w45:=hS46
   have hS48:=hS47.pick17
   have hS49:=hS48.pick17
   have hS50:=hS49.pick17
   have hS51:=hS50.pick17
   have hS52:=hS51.pick17
   have hS53:=hS52.pick17
   have hS54:=hS53.pick17
   have hS55:=hS54.pick17
   have hS56:=hS55.pick17
   have hS57:=hS56.pick17
   have hS58:=hS57.pick17
   have hS59:=hS58.pick17
   have hS60:=hS59.pick17
   have hS61:=hS60.pick17
   have hS62:=hS61.pick17
   have hS63:=hS62.pick17
   have hS64:=hS63.pick17
   have hS65:=hS64.pick19
   have hS66:=hS65.pick18
   have hS67:=hS66.pick19
   cases Option.some.inj hp43
   exact hR _ _ ⟨rfl,hS67⟩
  have hp69:=ite_f hp11 h42
  refine sR 3 [.code p34_2,.inBlock 1] ?_
  have hS70:=hS40.pick17
  refine r_rret hS70 [p34_2] 0 (by kernel_rfl) ?_
  intro w71 hS72
  have hS73 : St w0 Z (xlp La2 34 (fill (mk 17 [(2,.pointer (some ⟨ba2v2,0,none⟩))]) la2) #[7,8] p34_0 p34_1 Da2 [p34_2] 1::xlp La2v2vc0 3 (fill (mk 165 [(4,.pointer (some ⟨ba2v2vc0v4,0,none⟩)),(5,.pointer (some ⟨ba2v2vc0v5,0,none⟩)),(6,.pointer (some ⟨ba2v2vc0v6,0,none⟩)),(9,.pointer (some ⟨ba2v2vc0v9,0,none⟩)),(11,.pointer (some ⟨ba2v2vc0v11,0,none⟩)),(12,.pointer (some ⟨ba2v2vc0v12,0,none⟩)),(13,.pointer (some ⟨ba2v2vc0v13,0,none⟩)),(14,.pointer (some ⟨ba2v2vc0v14,0,none⟩))]) la2v2vc0) #[44,45] p3_7 p3_8 Da2v2vc0 [p3_9,p3_10] t4::xblk ba2v2vc0v4 3 ([.int .i64 a2v2vc0v4v])::xblk ba2v2vc0v5 3 ([.int .i64 a2v2vc0v5v])::xblk ba2v2vc0v6 4 ([.bool t5])::xblk ba2v2vc0v9 43 ([.slice Aa2v2vc0v9v_0 a2v2vc0v9v_0.length ca2v2vc0v9v_0,.slice Aa2v2vc0v9v_1 a2v2vc0v9v_1.length ca2v2vc0v9v_1,.slice Aa2v2vc0v9v_2 a2v2vc0v9v_2.length ca2v2vc0v9v_2,.slice Aa2v2vc0v9v_3 a2v2vc0v9v_3.length ca2v2vc0v9v_3,.slice Aa2v2vc0v9v_4 a2v2vc0v9v_4.length ca2v2vc0v9v_4,.slice Aa2v2vc0v9v_5 a2v2vc0v9v_5.length ca2v2vc0v9v_5,.slice Aa2v2vc0v9v_6 a2v2vc0v9v_6.length ca2v2vc0v9v_6,.bool a2v2vc0v9v_7,.map (some ba2v2vc0v9v_8)])::xmap ba2v2vc0v9v_8 (a2v2vc0v9v_8m.map (kv Value.string (Value.int .i64)))::xblk ba2v2vc0v11 33 ([.pointer (some ⟨ba2v2vc0v11v,0,none⟩)])::xblk ba2v2vc0v11v 49 ([.map (some ba2v2vc0v11vv_0),.map (some ba2v2vc0v11vv_1),.map (some ba2v2vc0v11vv_2),.bool t6])::xmap ba2v2vc0v11vv_0 (t7.map (kv Value.string (Value.int .i64)))::xmap ba2v2vc0v11vv_1 (a2v2vc0v11vv_1m.map (kv Value.string (Value.int .i64)))::xmap ba2v2vc0v11vv_2 (t8.map (kv Value.string (Value.int .i64)))::xblk ba2v2vc0v12 46 ([.func (.func 34) #[] #[.pointer (some ⟨ba2v2vc0v12vc0,0,none⟩)]])::xblk ba2v2vc0v12vc0 32 ([.string a2v2vc0v12vc0v_0,.func (.func 28) #[] #[.pointer (some ⟨ba2v2vc0v12vc0v_1c0,0,none⟩),.pointer (some ⟨ba2v2vc0v12vc0v_1c1,0,none⟩)],.func (.func 31) #[] #[.pointer (some ⟨ba2v2vc0v12vc0v_1c1,0,none⟩),.pointer (some ⟨ba2v2vc0v12vc0v_1c0,0,none⟩)],.func (.func 32) #[] #[.pointer (some ⟨ba2v2vc0v12vc0v_1c0,0,none⟩),.pointer (some ⟨ba2v2vc0v12vc0v_1c1,0,none⟩)]])::xblk ba2v2vc0v12vc0v_1c0 33 ([.pointer (some ⟨ba2v2vc0v11v,0,none⟩)])::xblk ba2v2vc0v12vc0v_1c1 26 ([.slice Aa2v2vc0v12vc0v_1c1v_0 a2v2vc0v12vc0v_1c1v.Next.length ca2v2vc0v12vc0v_1c1v_0,.slice Aa2v2vc0v12vc0v_1c1v_1 a2v2vc0v12vc0v_1c1v.End.length ca2v2vc0v12vc0v_1c1v_1,.slice Aa2v2vc0v12vc0v_1c1v_2 a2v2vc0v12vc0v_1c1v.Value.length ca2v2vc0v12vc0v_1c1v_2,.int .i64 a2v2vc0v12vc0v_1c1v.Start])::xblk ba2v2vc0v13 3 ([.int .i64 a2v2vc0v13v])::xblk ba2v2vc0v14 3 ([.int .i64 t9])::xmap ba1 (a1m.map (kv Value.string (fun v => Value.agg (enc_explore_visit v).toArray)))::xblk ba2v2 96 ([.func (.yield La2v2vc0) #[] #[]])::fs) w71:=hS72
  have hS74:=hS73.pick17
  have hS75:=hS74.pick17
  have hS76:=hS75.pick17
  have hS77:=hS76.pick17
  have hS78:=hS77.pick17
  have hS79:=hS78.pick17
  have hS80:=hS79.pick17
  have hS81:=hS80.pick17
  have hS82:=hS81.pick17
  have hS83:=hS82.pick17
  have hS84:=hS83.pick17
  have hS85:=hS84.pick17
  have hS86:=hS85.pick17
  have hS87:=hS86.pick17
  have hS88:=hS87.pick17
  have hS89:=hS88.pick17
  have hS90:=hS89.pick17
  have hS91:=hS90.pick19
  have hS92:=hS91.pick18
  have hS93:=hS92.pick19
  cases Option.some.inj hp69
  exact hR _ _ ⟨rfl,hS93⟩

abbrev td81:List Item:=[.inBlock 0]
abbrev td82:List Item:=.inLoop (cd44 [1,1,0,0])::td81
abbrev td83:List Item:=.code (cd44 [1,1,0,0])::td82
abbrev td84:List Item:=.inBlock 1::td82
abbrev td85:List Item:=.inBlock 2::td84
abbrev td86:List Item:=.inLoop p44_20::td85
abbrev td87:List Item:=.code p44_20::td86
abbrev td88:List Item:=.code (cd44 [1,1,0,0,1,0,1,1,1,1,1,1,0,0,1,1,1])::td86
abbrev td89:List Item:=.inBlock 3::td88
abbrev td90:List Item:=.code (cd44 [1,1,0,0,1,0,1,1,1,1,1,1,0,0,1,1,0,0,1,1,1])::td89
abbrev td91:List Item:=.code p44_28::td90
abbrev td92:List Item:=.code p44_31::td89
def explore_walk_1.l1 (t28 : List ByteArray) (t114 : List explore_edge) (t147 : List ByteArray) (t151 : Int) (t152 : List (ByteArray × explore_visit)) : Option ((List ByteArray) × (List (ByteArray × explore_visit))) :=
  (if (decide (t151 < (t114.length : Int))) = true then (if 0 ≤ t151 ∧ t151 < (t114.length : Int) then (((if (mget t152 ((gt t114 t151).to)).isSome = true then some (true) else some (false)) : Option Bool) >>= (fun t180 => (if (!t180) = true then (if (t147.length + ([(gt t114 t151).to] : List ByteArray).length) * 16 ≤ 140737488355328 then (explore_walk_1.l1 t28 t114 (t147 ++ ([(gt t114 t151).to] : List ByteArray)) (IntKind.i64.wrap (t151 + 1)) (mput t152 ((gt t114 t151).to) (⟨(IntKind.i64.wrap ((((mget t152 (gt t28 (0 : Int))).getD (⟨0,(⟨#[]⟩ : ByteArray),⟨0,0,0⟩⟩ : explore_visit)).depth) + 1)),(gt t28 (0 : Int)),(gt t114 t151).by_⟩ : explore_visit))) else none) else (explore_walk_1.l1 t28 t114 (id t147) (IntKind.i64.wrap (t151 + 1)) (id t152))))) else none) else some ((t147,t152)))
 partial_fixpoint
def explore_walk_1.l0 (a0c0v2vc0v4v a0c0v2vc0v5v : Int) (a0c0v2vc0v9v_0 : List ByteArray) (a0c0v2vc0v9v_1 : List Int) (a0c0v2vc0v9v_2 : List (List weirref14_Move)) (a0c0v2vc0v9v_3 : List Bool) (a0c0v2vc0v9v_4 : List api_Final) (a0c0v2vc0v9v_5 : List Int) (a0c0v2vc0v9v_6 : List api_Pick) (a0c0v2vc0v9v_7 : Bool) (a0c0v2vc0v9v_8m a0c0v2vc0v11vv_1m : List (ByteArray × Int)) (a0c0v2vc0v12vc0v_0 : ByteArray) (a0c0v2vc0v12vc0v_1c1v : weirlaw14_Net) (a0c0v2vc0v13v : Int) (y44 : ByteArray) (t28 : List ByteArray) (t32 : Int) (t33 t34 : Bool) (t35 t36 : List (ByteArray × Int)) (t37 : Int) (t38 : List (ByteArray × explore_visit)) : Option (Sum (Int × Bool × Bool × (List (ByteArray × Int)) × (List (ByteArray × Int)) × Int) (Int × Int × Bool × Bool × (List (ByteArray × Int)) × (List (ByteArray × Int)) × Int)) :=
  (if (decide ((t28.length : Int) > 0)) = true then (if 0 ≤ (0 : Int) ∧ (0 : Int) < (t28.length : Int) then (if 0 ≤ (1 : Int) ∧ (1 : Int) ≤ (t28.length : Int) then (if t32 = 0 then (explore_States_1_r.f (gt t28 (0 : Int)) t38 a0c0v2vc0v4v a0c0v2vc0v5v t33 a0c0v2vc0v9v_0 a0c0v2vc0v9v_1 a0c0v2vc0v9v_2 a0c0v2vc0v9v_3 a0c0v2vc0v9v_4 a0c0v2vc0v9v_5 a0c0v2vc0v9v_6 a0c0v2vc0v9v_7 a0c0v2vc0v9v_8m t35 a0c0v2vc0v11vv_1m t36 t34 a0c0v2vc0v12vc0v_0 a0c0v2vc0v12vc0v_1c1v a0c0v2vc0v13v t37 >>= (fun (t70,t71,t72,t73,t74,t75,t76) => (if decide (t70 = 0) = true then (explore_moves.f y44 t74 a0c0v2vc0v11vv_1m t75 t73 a0c0v2vc0v12vc0v_1c1v (gt t28 (0 : Int)) >>= (fun (t114,t115,t116,t117) => (explore_walk_1.l1 t28 t114 ((t28.take t28.length).drop ((1 : Int).toNat)) 0 t38 >>= (fun (t137,t141) => (explore_walk_1.l0 a0c0v2vc0v4v a0c0v2vc0v5v a0c0v2vc0v9v_0 a0c0v2vc0v9v_1 a0c0v2vc0v9v_2 a0c0v2vc0v9v_3 a0c0v2vc0v9v_4 a0c0v2vc0v9v_5 a0c0v2vc0v9v_6 a0c0v2vc0v9v_7 a0c0v2vc0v9v_8m a0c0v2vc0v11vv_1m a0c0v2vc0v12vc0v_0 a0c0v2vc0v12vc0v_1c1v a0c0v2vc0v13v y44 t137 t71 t72 t115 t116 t117 t76 t141))))) else some (.inr ((t70,t71,t72,t73,t74,t75,t76)))))) else none) else none) else none) else some (.inl (t32,t33,t34,t35,t36,t37)))
 partial_fixpoint
def explore_walk_1.f (a0c0v2vc0v4v a0c0v2vc0v5v : Int) (a0c0v2vc0v6v : Bool) (a0c0v2vc0v9v_0 : List ByteArray) (a0c0v2vc0v9v_1 : List Int) (a0c0v2vc0v9v_2 : List (List weirref14_Move)) (a0c0v2vc0v9v_3 : List Bool) (a0c0v2vc0v9v_4 : List api_Final) (a0c0v2vc0v9v_5 : List Int) (a0c0v2vc0v9v_6 : List api_Pick) (a0c0v2vc0v9v_7 : Bool) (a0c0v2vc0v9v_8m a0c0v2vc0v11vv_0m : List (ByteArray × Int)) (a0c0v2vc0v11vv_1m a0c0v2vc0v11vv_2m : List (ByteArray × Int)) (a0c0v2vc0v11vv_3 : Bool) (a0c0v2vc0v12vc0v_0 : ByteArray) (a0c0v2vc0v12vc0v_1c1v : weirlaw14_Net) (a0c0v2vc0v13v a0c0v2vc0v14v : Int) (y44 : ByteArray) : Option (Int × Int × Bool × Bool × (List (ByteArray × Int)) × (List (ByteArray × Int)) × Int) :=
  (explore_walk_1.l0 a0c0v2vc0v4v a0c0v2vc0v5v a0c0v2vc0v9v_0 a0c0v2vc0v9v_1 a0c0v2vc0v9v_2 a0c0v2vc0v9v_3 a0c0v2vc0v9v_4 a0c0v2vc0v9v_5 a0c0v2vc0v9v_6 a0c0v2vc0v9v_7 a0c0v2vc0v9v_8m a0c0v2vc0v11vv_1m a0c0v2vc0v12vc0v_0 a0c0v2vc0v12vc0v_1c1v a0c0v2vc0v13v y44 ([y44] : List ByteArray) 0 a0c0v2vc0v6v a0c0v2vc0v11vv_3 a0c0v2vc0v11vv_0m a0c0v2vc0v11vv_2m a0c0v2vc0v14v (mput ([] : List (ByteArray × explore_visit)) y44 (⟨0,(⟨#[]⟩ : ByteArray),(⟨0,0,0⟩ : api_Pick)⟩ : explore_visit)) >>= (fun | .inl (t15,t16,t17,t18,t19,t20) => some ((0,t15,t16,t17,t18,t19,t20)) | .inr e => some e))
theorem explore_walk_1.ok {a0c0v2vc0v4v a0c0v2vc0v5v : Int} {a0c0v2vc0v6v : Bool} {a0c0v2vc0v9v_0 : List ByteArray} {a0c0v2vc0v9v_1 : List Int} {a0c0v2vc0v9v_2 : List (List weirref14_Move)} {a0c0v2vc0v9v_3 : List Bool} {a0c0v2vc0v9v_4 : List api_Final} {a0c0v2vc0v9v_5 : List Int} {a0c0v2vc0v9v_6 : List api_Pick} {a0c0v2vc0v9v_7 : Bool} {a0c0v2vc0v9v_8m a0c0v2vc0v11vv_0m : List (ByteArray × Int)} {a0c0v2vc0v11vv_1m a0c0v2vc0v11vv_2m : List (ByteArray × Int)} {a0c0v2vc0v11vv_3 : Bool} {a0c0v2vc0v12vc0v_0 : ByteArray} {a0c0v2vc0v12vc0v_1c1v : weirlaw14_Net} {a0c0v2vc0v13v a0c0v2vc0v14v : Int} {y44 : ByteArray} {La0c0 Da0c0 : Nat} {la0c0 : List Value} {ba0c0v2 La0c0v2vc0 Da0c0v2vc0 : Nat} {la0c0v2vc0 : List Value} {ba0c0v2vc0v4 ba0c0v2vc0v5 : Nat} {ba0c0v2vc0v6 ba0c0v2vc0v9 : Nat} {Aa0c0v2vc0v9v_0 : Option Addr} {ca0c0v2vc0v9v_0 : Nat} {Aa0c0v2vc0v9v_1 : Option Addr} {ca0c0v2vc0v9v_1 : Nat} {Aa0c0v2vc0v9v_2 : Option Addr} {ca0c0v2vc0v9v_2 : Nat} {Aa0c0v2vc0v9v_3 : Option Addr} {ca0c0v2vc0v9v_3 : Nat} {Aa0c0v2vc0v9v_4 : Option Addr} {ca0c0v2vc0v9v_4 : Nat} {Aa0c0v2vc0v9v_5 : Option Addr} {ca0c0v2vc0v9v_5 : Nat} {Aa0c0v2vc0v9v_6 : Option Addr} {ca0c0v2vc0v9v_6 ba0c0v2vc0v9v_8 : Nat} {ba0c0v2vc0v11 ba0c0v2vc0v11v : Nat} {ba0c0v2vc0v11vv_0 ba0c0v2vc0v11vv_1 : Nat} {ba0c0v2vc0v11vv_2 ba0c0v2vc0v12 : Nat} {ba0c0v2vc0v12vc0 ba0c0v2vc0v12vc0v_1c0 ba0c0v2vc0v12vc0v_1c1 : Nat} {Aa0c0v2vc0v12vc0v_1c1v_0 : Option Addr} {ca0c0v2vc0v12vc0v_1c1v_0 : Nat} {Aa0c0v2vc0v12vc0v_1c1v_1 : Option Addr} {ca0c0v2vc0v12vc0v_1c1v_1 : Nat} {Aa0c0v2vc0v12vc0v_1c1v_2 : Option Addr} {ca0c0v2vc0v12vc0v_1c1v_2 ba0c0v2vc0v13 : Nat} {ba0c0v2vc0v14 ba1 ba2 : Nat} {q0 q1 : Int} {q2 q3 : Bool} {q4 q5 : List (ByteArray × Int)} {q6 : Int} (hp0 : explore_walk_1.f a0c0v2vc0v4v a0c0v2vc0v5v a0c0v2vc0v6v a0c0v2vc0v9v_0 a0c0v2vc0v9v_1 a0c0v2vc0v9v_2 a0c0v2vc0v9v_3 a0c0v2vc0v9v_4 a0c0v2vc0v9v_5 a0c0v2vc0v9v_6 a0c0v2vc0v9v_7 a0c0v2vc0v9v_8m a0c0v2vc0v11vv_0m a0c0v2vc0v11vv_1m a0c0v2vc0v11vv_2m a0c0v2vc0v11vv_3 a0c0v2vc0v12vc0v_0 a0c0v2vc0v12vc0v_1c1v a0c0v2vc0v13v a0c0v2vc0v14v y44 = some (q0,q1,q2,q3,q4,q5,q6)) (hS0 : St w0 Z (xlp La0c0 34 (fill (mk 17 [(2,.pointer (some ⟨ba0c0v2,0,none⟩))]) la0c0) #[7,8] p34_0 p34_1 Da0c0 [p34_2] 0::xblk ba0c0v2 96 ([.func (.yield La0c0v2vc0) #[] #[]])::xlp La0c0v2vc0 3 (fill (mk 165 [(4,.pointer (some ⟨ba0c0v2vc0v4,0,none⟩)),(5,.pointer (some ⟨ba0c0v2vc0v5,0,none⟩)),(6,.pointer (some ⟨ba0c0v2vc0v6,0,none⟩)),(9,.pointer (some ⟨ba0c0v2vc0v9,0,none⟩)),(11,.pointer (some ⟨ba0c0v2vc0v11,0,none⟩)),(12,.pointer (some ⟨ba0c0v2vc0v12,0,none⟩)),(13,.pointer (some ⟨ba0c0v2vc0v13,0,none⟩)),(14,.pointer (some ⟨ba0c0v2vc0v14,0,none⟩))]) la0c0v2vc0) #[44,45] p3_7 p3_8 Da0c0v2vc0 [p3_9,p3_10] 0::xblk ba0c0v2vc0v4 3 ([.int .i64 a0c0v2vc0v4v])::xblk ba0c0v2vc0v5 3 ([.int .i64 a0c0v2vc0v5v])::xblk ba0c0v2vc0v6 4 ([.bool a0c0v2vc0v6v])::xblk ba0c0v2vc0v9 43 ([.slice Aa0c0v2vc0v9v_0 a0c0v2vc0v9v_0.length ca0c0v2vc0v9v_0,.slice Aa0c0v2vc0v9v_1 a0c0v2vc0v9v_1.length ca0c0v2vc0v9v_1,.slice Aa0c0v2vc0v9v_2 a0c0v2vc0v9v_2.length ca0c0v2vc0v9v_2,.slice Aa0c0v2vc0v9v_3 a0c0v2vc0v9v_3.length ca0c0v2vc0v9v_3,.slice Aa0c0v2vc0v9v_4 a0c0v2vc0v9v_4.length ca0c0v2vc0v9v_4,.slice Aa0c0v2vc0v9v_5 a0c0v2vc0v9v_5.length ca0c0v2vc0v9v_5,.slice Aa0c0v2vc0v9v_6 a0c0v2vc0v9v_6.length ca0c0v2vc0v9v_6,.bool a0c0v2vc0v9v_7,.map (some ba0c0v2vc0v9v_8)])::xmap ba0c0v2vc0v9v_8 (a0c0v2vc0v9v_8m.map (kv Value.string (Value.int .i64)))::xblk ba0c0v2vc0v11 33 ([.pointer (some ⟨ba0c0v2vc0v11v,0,none⟩)])::xblk ba0c0v2vc0v11v 49 ([.map (some ba0c0v2vc0v11vv_0),.map (some ba0c0v2vc0v11vv_1),.map (some ba0c0v2vc0v11vv_2),.bool a0c0v2vc0v11vv_3])::xmap ba0c0v2vc0v11vv_0 (a0c0v2vc0v11vv_0m.map (kv Value.string (Value.int .i64)))::xmap ba0c0v2vc0v11vv_1 (a0c0v2vc0v11vv_1m.map (kv Value.string (Value.int .i64)))::xmap ba0c0v2vc0v11vv_2 (a0c0v2vc0v11vv_2m.map (kv Value.string (Value.int .i64)))::xblk ba0c0v2vc0v12 46 ([.func (.func 34) #[] #[.pointer (some ⟨ba0c0v2vc0v12vc0,0,none⟩)]])::xblk ba0c0v2vc0v12vc0 32 ([.string a0c0v2vc0v12vc0v_0,.func (.func 28) #[] #[.pointer (some ⟨ba0c0v2vc0v12vc0v_1c0,0,none⟩),.pointer (some ⟨ba0c0v2vc0v12vc0v_1c1,0,none⟩)],.func (.func 31) #[] #[.pointer (some ⟨ba0c0v2vc0v12vc0v_1c1,0,none⟩),.pointer (some ⟨ba0c0v2vc0v12vc0v_1c0,0,none⟩)],.func (.func 32) #[] #[.pointer (some ⟨ba0c0v2vc0v12vc0v_1c0,0,none⟩),.pointer (some ⟨ba0c0v2vc0v12vc0v_1c1,0,none⟩)]])::xblk ba0c0v2vc0v12vc0v_1c0 33 ([.pointer (some ⟨ba0c0v2vc0v11v,0,none⟩)])::xblk ba0c0v2vc0v12vc0v_1c1 26 ([.slice Aa0c0v2vc0v12vc0v_1c1v_0 a0c0v2vc0v12vc0v_1c1v.Next.length ca0c0v2vc0v12vc0v_1c1v_0,.slice Aa0c0v2vc0v12vc0v_1c1v_1 a0c0v2vc0v12vc0v_1c1v.End.length ca0c0v2vc0v12vc0v_1c1v_1,.slice Aa0c0v2vc0v12vc0v_1c1v_2 a0c0v2vc0v12vc0v_1c1v.Value.length ca0c0v2vc0v12vc0v_1c1v_2,.int .i64 a0c0v2vc0v12vc0v_1c1v.Start])::xblk ba0c0v2vc0v13 3 ([.int .i64 a0c0v2vc0v13v])::xblk ba0c0v2vc0v14 3 ([.int .i64 a0c0v2vc0v14v])::xblk ba1 32 ([.string y44,.func (.func 28) #[] #[.pointer (some ⟨ba0c0v2vc0v12vc0v_1c0,0,none⟩),.pointer (some ⟨ba0c0v2vc0v12vc0v_1c1,0,none⟩)],.func (.func 31) #[] #[.pointer (some ⟨ba0c0v2vc0v12vc0v_1c1,0,none⟩),.pointer (some ⟨ba0c0v2vc0v12vc0v_1c0,0,none⟩)],.func (.func 32) #[] #[.pointer (some ⟨ba0c0v2vc0v12vc0v_1c0,0,none⟩),.pointer (some ⟨ba0c0v2vc0v12vc0v_1c1,0,none⟩)]])::xblk ba2 130 ([.nilFunc])::fs) w) (ha0c0v2vc0v9v_0 : SlZ (flat encS) 1 Z Aa0c0v2vc0v9v_0 ca0c0v2vc0v9v_0 a0c0v2vc0v9v_0) (ha0c0v2vc0v9v_1 : SlZ (flat (encI .i64)) 1 Z Aa0c0v2vc0v9v_1 ca0c0v2vc0v9v_1 a0c0v2vc0v9v_1) (ha0c0v2vc0v9v_2 : SlZ (repL (flat enc_weirref14_Move) 4) 1 Z Aa0c0v2vc0v9v_2 ca0c0v2vc0v9v_2 a0c0v2vc0v9v_2) (ha0c0v2vc0v9v_3 : SlZ (flat encB) 1 Z Aa0c0v2vc0v9v_3 ca0c0v2vc0v9v_3 a0c0v2vc0v9v_3) (ha0c0v2vc0v9v_4 : SlZ (flat enc_api_Final) 49 Z Aa0c0v2vc0v9v_4 ca0c0v2vc0v9v_4 a0c0v2vc0v9v_4) (ha0c0v2vc0v9v_5 : SlZ (flat (encI .i64)) 1 Z Aa0c0v2vc0v9v_5 ca0c0v2vc0v9v_5 a0c0v2vc0v9v_5) (ha0c0v2vc0v9v_6 : SlZ (flat enc_api_Pick) 3 Z Aa0c0v2vc0v9v_6 ca0c0v2vc0v9v_6 a0c0v2vc0v9v_6) (ha0c0v2vc0v12vc0v_1c1v_0 : SlZ (repL (flat (encI .i64)) 1) 1 Z Aa0c0v2vc0v12vc0v_1c1v_0 ca0c0v2vc0v12vc0v_1c1v_0 a0c0v2vc0v12vc0v_1c1v.Next) (ha0c0v2vc0v12vc0v_1c1v_1 : SlZ (flat encB) 1 Z Aa0c0v2vc0v12vc0v_1c1v_1 ca0c0v2vc0v12vc0v_1c1v_1 a0c0v2vc0v12vc0v_1c1v.End) (ha0c0v2vc0v12vc0v_1c1v_2 : SlZ (flat (encI .i64)) 1 Z Aa0c0v2vc0v12vc0v_1c1v_2 ca0c0v2vc0v12vc0v_1c1v_2 a0c0v2vc0v12vc0v_1c1v.Value) :
    Calls Try.prog 44 #[.func (.yield La0c0) #[] #[],.pointer (some ⟨ba1,0,none⟩),.pointer (some ⟨ba2,0,none⟩)] w (fun e w' => e = .returned (.tuple #[]) ∧ St w0 Z (xlp La0c0 34 (fill (mk 17 [(2,.pointer (some ⟨ba0c0v2,0,none⟩))]) la0c0) #[7,8] p34_0 p34_1 Da0c0 [p34_2] q0::xblk ba0c0v2 96 ([.func (.yield La0c0v2vc0) #[] #[]])::xlp La0c0v2vc0 3 (fill (mk 165 [(4,.pointer (some ⟨ba0c0v2vc0v4,0,none⟩)),(5,.pointer (some ⟨ba0c0v2vc0v5,0,none⟩)),(6,.pointer (some ⟨ba0c0v2vc0v6,0,none⟩)),(9,.pointer (some ⟨ba0c0v2vc0v9,0,none⟩)),(11,.pointer (some ⟨ba0c0v2vc0v11,0,none⟩)),(12,.pointer (some ⟨ba0c0v2vc0v12,0,none⟩)),(13,.pointer (some ⟨ba0c0v2vc0v13,0,none⟩)),(14,.pointer (some ⟨ba0c0v2vc0v14,0,none⟩))]) la0c0v2vc0) #[44,45] p3_7 p3_8 Da0c0v2vc0 [p3_9,p3_10] q1::xblk ba0c0v2vc0v4 3 ([.int .i64 a0c0v2vc0v4v])::xblk ba0c0v2vc0v5 3 ([.int .i64 a0c0v2vc0v5v])::xblk ba0c0v2vc0v6 4 ([.bool q2])::xblk ba0c0v2vc0v9 43 ([.slice Aa0c0v2vc0v9v_0 a0c0v2vc0v9v_0.length ca0c0v2vc0v9v_0,.slice Aa0c0v2vc0v9v_1 a0c0v2vc0v9v_1.length ca0c0v2vc0v9v_1,.slice Aa0c0v2vc0v9v_2 a0c0v2vc0v9v_2.length ca0c0v2vc0v9v_2,.slice Aa0c0v2vc0v9v_3 a0c0v2vc0v9v_3.length ca0c0v2vc0v9v_3,.slice Aa0c0v2vc0v9v_4 a0c0v2vc0v9v_4.length ca0c0v2vc0v9v_4,.slice Aa0c0v2vc0v9v_5 a0c0v2vc0v9v_5.length ca0c0v2vc0v9v_5,.slice Aa0c0v2vc0v9v_6 a0c0v2vc0v9v_6.length ca0c0v2vc0v9v_6,.bool a0c0v2vc0v9v_7,.map (some ba0c0v2vc0v9v_8)])::xmap ba0c0v2vc0v9v_8 (a0c0v2vc0v9v_8m.map (kv Value.string (Value.int .i64)))::xblk ba0c0v2vc0v11 33 ([.pointer (some ⟨ba0c0v2vc0v11v,0,none⟩)])::xblk ba0c0v2vc0v11v 49 ([.map (some ba0c0v2vc0v11vv_0),.map (some ba0c0v2vc0v11vv_1),.map (some ba0c0v2vc0v11vv_2),.bool q3])::xmap ba0c0v2vc0v11vv_0 (q4.map (kv Value.string (Value.int .i64)))::xmap ba0c0v2vc0v11vv_1 (a0c0v2vc0v11vv_1m.map (kv Value.string (Value.int .i64)))::xmap ba0c0v2vc0v11vv_2 (q5.map (kv Value.string (Value.int .i64)))::xblk ba0c0v2vc0v12 46 ([.func (.func 34) #[] #[.pointer (some ⟨ba0c0v2vc0v12vc0,0,none⟩)]])::xblk ba0c0v2vc0v12vc0 32 ([.string a0c0v2vc0v12vc0v_0,.func (.func 28) #[] #[.pointer (some ⟨ba0c0v2vc0v12vc0v_1c0,0,none⟩),.pointer (some ⟨ba0c0v2vc0v12vc0v_1c1,0,none⟩)],.func (.func 31) #[] #[.pointer (some ⟨ba0c0v2vc0v12vc0v_1c1,0,none⟩),.pointer (some ⟨ba0c0v2vc0v12vc0v_1c0,0,none⟩)],.func (.func 32) #[] #[.pointer (some ⟨ba0c0v2vc0v12vc0v_1c0,0,none⟩),.pointer (some ⟨ba0c0v2vc0v12vc0v_1c1,0,none⟩)]])::xblk ba0c0v2vc0v12vc0v_1c0 33 ([.pointer (some ⟨ba0c0v2vc0v11v,0,none⟩)])::xblk ba0c0v2vc0v12vc0v_1c1 26 ([.slice Aa0c0v2vc0v12vc0v_1c1v_0 a0c0v2vc0v12vc0v_1c1v.Next.length ca0c0v2vc0v12vc0v_1c1v_0,.slice Aa0c0v2vc0v12vc0v_1c1v_1 a0c0v2vc0v12vc0v_1c1v.End.length ca0c0v2vc0v12vc0v_1c1v_1,.slice Aa0c0v2vc0v12vc0v_1c1v_2 a0c0v2vc0v12vc0v_1c1v.Value.length ca0c0v2vc0v12vc0v_1c1v_2,.int .i64 a0c0v2vc0v12vc0v_1c1v.Start])::xblk ba0c0v2vc0v13 3 ([.int .i64 a0c0v2vc0v13v])::xblk ba0c0v2vc0v14 3 ([.int .i64 q6])::xblk ba1 32 ([.string y44,.func (.func 28) #[] #[.pointer (some ⟨ba0c0v2vc0v12vc0v_1c0,0,none⟩),.pointer (some ⟨ba0c0v2vc0v12vc0v_1c1,0,none⟩)],.func (.func 31) #[] #[.pointer (some ⟨ba0c0v2vc0v12vc0v_1c1,0,none⟩),.pointer (some ⟨ba0c0v2vc0v12vc0v_1c0,0,none⟩)],.func (.func 32) #[] #[.pointer (some ⟨ba0c0v2vc0v12vc0v_1c0,0,none⟩),.pointer (some ⟨ba0c0v2vc0v12vc0v_1c1,0,none⟩)]])::xblk ba2 130 ([.nilFunc])::fs) w'):=by
  refine calls_abs ?_; intro R hR
  unfold explore_walk_1.f at hp0
  refine calls_of_runs (fn:=Try.f44) (c:=cd44 []) Try.func44 (by kernel_rfl) (al:=[.func (.yield La0c0) #[] #[],.pointer (some ⟨ba1,0,none⟩),.pointer (some ⟨ba2,0,none⟩)]) rfl (n:=72) rfl ?_
  refine sR 2 [iR p44_0 0 7,.code (cd44 [1])] ?_
  refine r_makeMap (c:=p44_0) (i:=0) (d:=(some 12)) (ty:=100) (t:=100) hS0 (by kernel_rfl) (by kernel_rfl) ?_
  intro b1 w2 hS3
  have hS5 : St w0 Z (xmap b1 (([] : List (ByteArray × explore_visit)).map (kv Value.string (fun v => Value.agg (enc_explore_visit v).toArray)))::xlp La0c0 34 (fill (mk 17 [(2,.pointer (some ⟨ba0c0v2,0,none⟩))]) la0c0) #[7,8] p34_0 p34_1 Da0c0 [p34_2] 0::xblk ba0c0v2 96 ([.func (.yield La0c0v2vc0) #[] #[]])::xlp La0c0v2vc0 3 (fill (mk 165 [(4,.pointer (some ⟨ba0c0v2vc0v4,0,none⟩)),(5,.pointer (some ⟨ba0c0v2vc0v5,0,none⟩)),(6,.pointer (some ⟨ba0c0v2vc0v6,0,none⟩)),(9,.pointer (some ⟨ba0c0v2vc0v9,0,none⟩)),(11,.pointer (some ⟨ba0c0v2vc0v11,0,none⟩)),(12,.pointer (some ⟨ba0c0v2vc0v12,0,none⟩)),(13,.pointer (some ⟨ba0c0v2vc0v13,0,none⟩)),(14,.pointer (some ⟨ba0c0v2vc0v14,0,none⟩))]) la0c0v2vc0) #[44,45] p3_7 p3_8 Da0c0v2vc0 [p3_9,p3_10] 0::xblk ba0c0v2vc0v4 3 ([.int .i64 a0c0v2vc0v4v])::xblk ba0c0v2vc0v5 3 ([.int .i64 a0c0v2vc0v5v])::xblk ba0c0v2vc0v6 4 ([.bool a0c0v2vc0v6v])::xblk ba0c0v2vc0v9 43 ([.slice Aa0c0v2vc0v9v_0 a0c0v2vc0v9v_0.length ca0c0v2vc0v9v_0,.slice Aa0c0v2vc0v9v_1 a0c0v2vc0v9v_1.length ca0c0v2vc0v9v_1,.slice Aa0c0v2vc0v9v_2 a0c0v2vc0v9v_2.length ca0c0v2vc0v9v_2,.slice Aa0c0v2vc0v9v_3 a0c0v2vc0v9v_3.length ca0c0v2vc0v9v_3,.slice Aa0c0v2vc0v9v_4 a0c0v2vc0v9v_4.length ca0c0v2vc0v9v_4,.slice Aa0c0v2vc0v9v_5 a0c0v2vc0v9v_5.length ca0c0v2vc0v9v_5,.slice Aa0c0v2vc0v9v_6 a0c0v2vc0v9v_6.length ca0c0v2vc0v9v_6,.bool a0c0v2vc0v9v_7,.map (some ba0c0v2vc0v9v_8)])::xmap ba0c0v2vc0v9v_8 (a0c0v2vc0v9v_8m.map (kv Value.string (Value.int .i64)))::xblk ba0c0v2vc0v11 33 ([.pointer (some ⟨ba0c0v2vc0v11v,0,none⟩)])::xblk ba0c0v2vc0v11v 49 ([.map (some ba0c0v2vc0v11vv_0),.map (some ba0c0v2vc0v11vv_1),.map (some ba0c0v2vc0v11vv_2),.bool a0c0v2vc0v11vv_3])::xmap ba0c0v2vc0v11vv_0 (a0c0v2vc0v11vv_0m.map (kv Value.string (Value.int .i64)))::xmap ba0c0v2vc0v11vv_1 (a0c0v2vc0v11vv_1m.map (kv Value.string (Value.int .i64)))::xmap ba0c0v2vc0v11vv_2 (a0c0v2vc0v11vv_2m.map (kv Value.string (Value.int .i64)))::xblk ba0c0v2vc0v12 46 ([.func (.func 34) #[] #[.pointer (some ⟨ba0c0v2vc0v12vc0,0,none⟩)]])::xblk ba0c0v2vc0v12vc0 32 ([.string a0c0v2vc0v12vc0v_0,.func (.func 28) #[] #[.pointer (some ⟨ba0c0v2vc0v12vc0v_1c0,0,none⟩),.pointer (some ⟨ba0c0v2vc0v12vc0v_1c1,0,none⟩)],.func (.func 31) #[] #[.pointer (some ⟨ba0c0v2vc0v12vc0v_1c1,0,none⟩),.pointer (some ⟨ba0c0v2vc0v12vc0v_1c0,0,none⟩)],.func (.func 32) #[] #[.pointer (some ⟨ba0c0v2vc0v12vc0v_1c0,0,none⟩),.pointer (some ⟨ba0c0v2vc0v12vc0v_1c1,0,none⟩)]])::xblk ba0c0v2vc0v12vc0v_1c0 33 ([.pointer (some ⟨ba0c0v2vc0v11v,0,none⟩)])::xblk ba0c0v2vc0v12vc0v_1c1 26 ([.slice Aa0c0v2vc0v12vc0v_1c1v_0 a0c0v2vc0v12vc0v_1c1v.Next.length ca0c0v2vc0v12vc0v_1c1v_0,.slice Aa0c0v2vc0v12vc0v_1c1v_1 a0c0v2vc0v12vc0v_1c1v.End.length ca0c0v2vc0v12vc0v_1c1v_1,.slice Aa0c0v2vc0v12vc0v_1c1v_2 a0c0v2vc0v12vc0v_1c1v.Value.length ca0c0v2vc0v12vc0v_1c1v_2,.int .i64 a0c0v2vc0v12vc0v_1c1v.Start])::xblk ba0c0v2vc0v13 3 ([.int .i64 a0c0v2vc0v13v])::xblk ba0c0v2vc0v14 3 ([.int .i64 a0c0v2vc0v14v])::xblk ba1 32 ([.string y44,.func (.func 28) #[] #[.pointer (some ⟨ba0c0v2vc0v12vc0v_1c0,0,none⟩),.pointer (some ⟨ba0c0v2vc0v12vc0v_1c1,0,none⟩)],.func (.func 31) #[] #[.pointer (some ⟨ba0c0v2vc0v12vc0v_1c1,0,none⟩),.pointer (some ⟨ba0c0v2vc0v12vc0v_1c0,0,none⟩)],.func (.func 32) #[] #[.pointer (some ⟨ba0c0v2vc0v12vc0v_1c0,0,none⟩),.pointer (some ⟨ba0c0v2vc0v12vc0v_1c1,0,none⟩)]])::xblk ba2 130 ([.nilFunc])::fs) w2:=hS3
  refine sR 1 [iR p44_0 2 5,.code (cd44 [1])] ?_
  refine rL1 9 (.tmp 13) 0 (hS5.blk 20 rfl) ?_
  refine sR 1 [.inRegion (opsOf p44_0) [4,5,6],.code (cd44 [1])] ?_
  refine r_insert (c:=p44_0) (i:=4) (d:=none) (ty:=0) (eK:=Value.string) (eV:=(fun v => Value.agg (enc_explore_visit v).toArray)) (dk:=.string) (b:=b1) (t:=100) (kt:=9) (et:=102) (x:=(.tmp 12)) (y:=(.tmp 14)) (z:=(.tmp 15)) (m:=([] : List (ByteArray × explore_visit))) (kk:=y44) (v:=(⟨0,(⟨#[]⟩ : ByteArray),(⟨0,0,0⟩ : api_Pick)⟩ : explore_visit)) hS5 (by kernel_rfl) (by kernel_rfl) key_str (by kernel_rfl) (by kernel_rfl) (by kernel_rfl) (by kernel_rfl) (by kernel_rfl) ?_
  intro w6 hS7
  refine sR 6 [.inRegion (opsOf (cd44 [1,0])) [1,2,3],.code (cd44 [1,1])] ?_
  refine rL1 9 (.tmp 17) 0 (hS7.blk 20 rfl) ?_
  refine r_lit (c:=(cd44 [1,0])) (i:=2) (d:=(some 19)) (ty:=36) (t:=36) (e:=9) (sz:=1) (n:=1) (parts:=#[(0,(.tmp 18))]) (vs:=[(0,.string y44)]) (z:=zeroOf Try.prog 9) (cs':=([y44] : List ByteArray).flatMap encS) hS7 (by kernel_rfl) (by kernel_rfl) (by kernel_rfl) (by kernel_rfl) (by kernel_rfl) (by decide) (by decide) (by kernel_rfl) rfl (Parts.cons (c:=[.string y44]) (by kernel_rfl) rfl Parts.nil) rfl ?_
  intro b9 w10 hS11
  refine sR 4 td83 ?_
  obtain ⟨v12,hv13,hp14⟩:=bind_some' hp0
  have hq23 : ∀ x,Sum.inr x = v12 → x = (q0,q1,q2,q3,q4,q5,q6):=by intro x hx; subst hx; simpa using hp14
  have J24 : ∀ (t15 : Int) (t16 t17 : Bool) (t18 t19 : List (ByteArray × Int)) (t20 : Int) (he26 : Sum.inl (t15,t16,t17,t18,t19,t20) = v12) (l25 : List Value) (w21 : World) (hS22 : St w0 Z (xlp La0c0 34 (fill (mk 17 [(2,.pointer (some ⟨ba0c0v2,0,none⟩))]) la0c0) #[7,8] p34_0 p34_1 Da0c0 [p34_2] 0::xblk ba0c0v2 96 ([.func (.yield La0c0v2vc0) #[] #[]])::xlp La0c0v2vc0 3 (fill (mk 165 [(4,.pointer (some ⟨ba0c0v2vc0v4,0,none⟩)),(5,.pointer (some ⟨ba0c0v2vc0v5,0,none⟩)),(6,.pointer (some ⟨ba0c0v2vc0v6,0,none⟩)),(9,.pointer (some ⟨ba0c0v2vc0v9,0,none⟩)),(11,.pointer (some ⟨ba0c0v2vc0v11,0,none⟩)),(12,.pointer (some ⟨ba0c0v2vc0v12,0,none⟩)),(13,.pointer (some ⟨ba0c0v2vc0v13,0,none⟩)),(14,.pointer (some ⟨ba0c0v2vc0v14,0,none⟩))]) la0c0v2vc0) #[44,45] p3_7 p3_8 Da0c0v2vc0 [p3_9,p3_10] t15::xblk ba0c0v2vc0v4 3 ([.int .i64 a0c0v2vc0v4v])::xblk ba0c0v2vc0v5 3 ([.int .i64 a0c0v2vc0v5v])::xblk ba0c0v2vc0v6 4 ([.bool t16])::xblk ba0c0v2vc0v9 43 ([.slice Aa0c0v2vc0v9v_0 a0c0v2vc0v9v_0.length ca0c0v2vc0v9v_0,.slice Aa0c0v2vc0v9v_1 a0c0v2vc0v9v_1.length ca0c0v2vc0v9v_1,.slice Aa0c0v2vc0v9v_2 a0c0v2vc0v9v_2.length ca0c0v2vc0v9v_2,.slice Aa0c0v2vc0v9v_3 a0c0v2vc0v9v_3.length ca0c0v2vc0v9v_3,.slice Aa0c0v2vc0v9v_4 a0c0v2vc0v9v_4.length ca0c0v2vc0v9v_4,.slice Aa0c0v2vc0v9v_5 a0c0v2vc0v9v_5.length ca0c0v2vc0v9v_5,.slice Aa0c0v2vc0v9v_6 a0c0v2vc0v9v_6.length ca0c0v2vc0v9v_6,.bool a0c0v2vc0v9v_7,.map (some ba0c0v2vc0v9v_8)])::xmap ba0c0v2vc0v9v_8 (a0c0v2vc0v9v_8m.map (kv Value.string (Value.int .i64)))::xblk ba0c0v2vc0v11 33 ([.pointer (some ⟨ba0c0v2vc0v11v,0,none⟩)])::xblk ba0c0v2vc0v11v 49 ([.map (some ba0c0v2vc0v11vv_0),.map (some ba0c0v2vc0v11vv_1),.map (some ba0c0v2vc0v11vv_2),.bool t17])::xmap ba0c0v2vc0v11vv_0 (t18.map (kv Value.string (Value.int .i64)))::xmap ba0c0v2vc0v11vv_1 (a0c0v2vc0v11vv_1m.map (kv Value.string (Value.int .i64)))::xmap ba0c0v2vc0v11vv_2 (t19.map (kv Value.string (Value.int .i64)))::xblk ba0c0v2vc0v12 46 ([.func (.func 34) #[] #[.pointer (some ⟨ba0c0v2vc0v12vc0,0,none⟩)]])::xblk ba0c0v2vc0v12vc0 32 ([.string a0c0v2vc0v12vc0v_0,.func (.func 28) #[] #[.pointer (some ⟨ba0c0v2vc0v12vc0v_1c0,0,none⟩),.pointer (some ⟨ba0c0v2vc0v12vc0v_1c1,0,none⟩)],.func (.func 31) #[] #[.pointer (some ⟨ba0c0v2vc0v12vc0v_1c1,0,none⟩),.pointer (some ⟨ba0c0v2vc0v12vc0v_1c0,0,none⟩)],.func (.func 32) #[] #[.pointer (some ⟨ba0c0v2vc0v12vc0v_1c0,0,none⟩),.pointer (some ⟨ba0c0v2vc0v12vc0v_1c1,0,none⟩)]])::xblk ba0c0v2vc0v12vc0v_1c0 33 ([.pointer (some ⟨ba0c0v2vc0v11v,0,none⟩)])::xblk ba0c0v2vc0v12vc0v_1c1 26 ([.slice Aa0c0v2vc0v12vc0v_1c1v_0 a0c0v2vc0v12vc0v_1c1v.Next.length ca0c0v2vc0v12vc0v_1c1v_0,.slice Aa0c0v2vc0v12vc0v_1c1v_1 a0c0v2vc0v12vc0v_1c1v.End.length ca0c0v2vc0v12vc0v_1c1v_1,.slice Aa0c0v2vc0v12vc0v_1c1v_2 a0c0v2vc0v12vc0v_1c1v.Value.length ca0c0v2vc0v12vc0v_1c1v_2,.int .i64 a0c0v2vc0v12vc0v_1c1v.Start])::xblk ba0c0v2vc0v13 3 ([.int .i64 a0c0v2vc0v13v])::xblk ba0c0v2vc0v14 3 ([.int .i64 t20])::xblk ba1 32 ([.string y44,.func (.func 28) #[] #[.pointer (some ⟨ba0c0v2vc0v12vc0v_1c0,0,none⟩),.pointer (some ⟨ba0c0v2vc0v12vc0v_1c1,0,none⟩)],.func (.func 31) #[] #[.pointer (some ⟨ba0c0v2vc0v12vc0v_1c1,0,none⟩),.pointer (some ⟨ba0c0v2vc0v12vc0v_1c0,0,none⟩)],.func (.func 32) #[] #[.pointer (some ⟨ba0c0v2vc0v12vc0v_1c0,0,none⟩),.pointer (some ⟨ba0c0v2vc0v12vc0v_1c1,0,none⟩)]])::xblk ba2 130 ([.nilFunc])::fs) w21),Runs Try.prog (fx 44) [] (fill (mk 75 []) l25) w21 R:=by
   intro t15 t16 t17 t18 t19 t20 he26 l25 w21 hS22
   subst he26
   try dsimp only at hp14
   refine runs_end (fn:=Try.f44) (v:=.tuple #[]) Try.func44 (by kernel_rfl) ?_
   cases Option.some.inj hp14
   exact hR _ _ ⟨rfl,hS22⟩
  have L47 : ∀ (t28 : List ByteArray) (t32 : Int) (t33 t34 : Bool) (t35 t36 : List (ByteArray × Int)) (t37 : Int) (t38 : List (ByteArray × explore_visit)) (e42 : Sum (Int × Bool × Bool × (List (ByteArray × Int)) × (List (ByteArray × Int)) × Int) (Int × Int × Bool × Bool × (List (ByteArray × Int)) × (List (ByteArray × Int)) × Int)),explore_walk_1.l0 a0c0v2vc0v4v a0c0v2vc0v5v a0c0v2vc0v9v_0 a0c0v2vc0v9v_1 a0c0v2vc0v9v_2 a0c0v2vc0v9v_3 a0c0v2vc0v9v_4 a0c0v2vc0v9v_5 a0c0v2vc0v9v_6 a0c0v2vc0v9v_7 a0c0v2vc0v9v_8m a0c0v2vc0v11vv_1m a0c0v2vc0v12vc0v_0 a0c0v2vc0v12vc0v_1c1v a0c0v2vc0v13v y44 t28 t32 t33 t34 t35 t36 t37 t38 = some e42 → e42 = v12 → ∀ (l41 : List Value) (A29 : Option Addr) (c30 : Nat) (w39 : World) (hS40 : St w0 Z (xlp La0c0 34 (fill (mk 17 [(2,.pointer (some ⟨ba0c0v2,0,none⟩))]) la0c0) #[7,8] p34_0 p34_1 Da0c0 [p34_2] 0::xblk ba0c0v2 96 ([.func (.yield La0c0v2vc0) #[] #[]])::xlp La0c0v2vc0 3 (fill (mk 165 [(4,.pointer (some ⟨ba0c0v2vc0v4,0,none⟩)),(5,.pointer (some ⟨ba0c0v2vc0v5,0,none⟩)),(6,.pointer (some ⟨ba0c0v2vc0v6,0,none⟩)),(9,.pointer (some ⟨ba0c0v2vc0v9,0,none⟩)),(11,.pointer (some ⟨ba0c0v2vc0v11,0,none⟩)),(12,.pointer (some ⟨ba0c0v2vc0v12,0,none⟩)),(13,.pointer (some ⟨ba0c0v2vc0v13,0,none⟩)),(14,.pointer (some ⟨ba0c0v2vc0v14,0,none⟩))]) la0c0v2vc0) #[44,45] p3_7 p3_8 Da0c0v2vc0 [p3_9,p3_10] t32::xblk ba0c0v2vc0v4 3 ([.int .i64 a0c0v2vc0v4v])::xblk ba0c0v2vc0v5 3 ([.int .i64 a0c0v2vc0v5v])::xblk ba0c0v2vc0v6 4 ([.bool t33])::xblk ba0c0v2vc0v9 43 ([.slice Aa0c0v2vc0v9v_0 a0c0v2vc0v9v_0.length ca0c0v2vc0v9v_0,.slice Aa0c0v2vc0v9v_1 a0c0v2vc0v9v_1.length ca0c0v2vc0v9v_1,.slice Aa0c0v2vc0v9v_2 a0c0v2vc0v9v_2.length ca0c0v2vc0v9v_2,.slice Aa0c0v2vc0v9v_3 a0c0v2vc0v9v_3.length ca0c0v2vc0v9v_3,.slice Aa0c0v2vc0v9v_4 a0c0v2vc0v9v_4.length ca0c0v2vc0v9v_4,.slice Aa0c0v2vc0v9v_5 a0c0v2vc0v9v_5.length ca0c0v2vc0v9v_5,.slice Aa0c0v2vc0v9v_6 a0c0v2vc0v9v_6.length ca0c0v2vc0v9v_6,.bool a0c0v2vc0v9v_7,.map (some ba0c0v2vc0v9v_8)])::xmap ba0c0v2vc0v9v_8 (a0c0v2vc0v9v_8m.map (kv Value.string (Value.int .i64)))::xblk ba0c0v2vc0v11 33 ([.pointer (some ⟨ba0c0v2vc0v11v,0,none⟩)])::xblk ba0c0v2vc0v11v 49 ([.map (some ba0c0v2vc0v11vv_0),.map (some ba0c0v2vc0v11vv_1),.map (some ba0c0v2vc0v11vv_2),.bool t34])::xmap ba0c0v2vc0v11vv_0 (t35.map (kv Value.string (Value.int .i64)))::xmap ba0c0v2vc0v11vv_1 (a0c0v2vc0v11vv_1m.map (kv Value.string (Value.int .i64)))::xmap ba0c0v2vc0v11vv_2 (t36.map (kv Value.string (Value.int .i64)))::xblk ba0c0v2vc0v12 46 ([.func (.func 34) #[] #[.pointer (some ⟨ba0c0v2vc0v12vc0,0,none⟩)]])::xblk ba0c0v2vc0v12vc0 32 ([.string a0c0v2vc0v12vc0v_0,.func (.func 28) #[] #[.pointer (some ⟨ba0c0v2vc0v12vc0v_1c0,0,none⟩),.pointer (some ⟨ba0c0v2vc0v12vc0v_1c1,0,none⟩)],.func (.func 31) #[] #[.pointer (some ⟨ba0c0v2vc0v12vc0v_1c1,0,none⟩),.pointer (some ⟨ba0c0v2vc0v12vc0v_1c0,0,none⟩)],.func (.func 32) #[] #[.pointer (some ⟨ba0c0v2vc0v12vc0v_1c0,0,none⟩),.pointer (some ⟨ba0c0v2vc0v12vc0v_1c1,0,none⟩)]])::xblk ba0c0v2vc0v12vc0v_1c0 33 ([.pointer (some ⟨ba0c0v2vc0v11v,0,none⟩)])::xblk ba0c0v2vc0v12vc0v_1c1 26 ([.slice Aa0c0v2vc0v12vc0v_1c1v_0 a0c0v2vc0v12vc0v_1c1v.Next.length ca0c0v2vc0v12vc0v_1c1v_0,.slice Aa0c0v2vc0v12vc0v_1c1v_1 a0c0v2vc0v12vc0v_1c1v.End.length ca0c0v2vc0v12vc0v_1c1v_1,.slice Aa0c0v2vc0v12vc0v_1c1v_2 a0c0v2vc0v12vc0v_1c1v.Value.length ca0c0v2vc0v12vc0v_1c1v_2,.int .i64 a0c0v2vc0v12vc0v_1c1v.Start])::xblk ba0c0v2vc0v13 3 ([.int .i64 a0c0v2vc0v13v])::xblk ba0c0v2vc0v14 3 ([.int .i64 t37])::xblk ba1 32 ([.string y44,.func (.func 28) #[] #[.pointer (some ⟨ba0c0v2vc0v12vc0v_1c0,0,none⟩),.pointer (some ⟨ba0c0v2vc0v12vc0v_1c1,0,none⟩)],.func (.func 31) #[] #[.pointer (some ⟨ba0c0v2vc0v12vc0v_1c1,0,none⟩),.pointer (some ⟨ba0c0v2vc0v12vc0v_1c0,0,none⟩)],.func (.func 32) #[] #[.pointer (some ⟨ba0c0v2vc0v12vc0v_1c0,0,none⟩),.pointer (some ⟨ba0c0v2vc0v12vc0v_1c1,0,none⟩)]])::xblk ba2 130 ([.nilFunc])::xmap b1 (t38.map (kv Value.string (fun v => Value.agg (enc_explore_visit v).toArray)))::xrow A29 c30 9 1 (t28.flatMap encS)::fs) w39),Runs Try.prog (fx 44) td83 (fill (mk 75 [(0,.func (.yield La0c0) #[] #[]),(1,.pointer (some ⟨ba1,0,none⟩)),(2,.pointer (some ⟨ba2,0,none⟩)),(4,.map (some b1)),(5,.slice A29 t28.length c30)]) l41) w39 R:=by
   refine explore_walk_1.l0.partial_correctness a0c0v2vc0v4v a0c0v2vc0v5v a0c0v2vc0v9v_0 a0c0v2vc0v9v_1 a0c0v2vc0v9v_2 a0c0v2vc0v9v_3 a0c0v2vc0v9v_4 a0c0v2vc0v9v_5 a0c0v2vc0v9v_6 a0c0v2vc0v9v_7 a0c0v2vc0v9v_8m a0c0v2vc0v11vv_1m a0c0v2vc0v12vc0v_0 a0c0v2vc0v12vc0v_1c1v a0c0v2vc0v13v y44 (fun t28 t32 t33 t34 t35 t36 t37 t38 e42 => e42 = v12 → ∀ (l41 : List Value) (A29 : Option Addr) (c30 : Nat) (w39 : World) (hS40 : St w0 Z (xlp La0c0 34 (fill (mk 17 [(2,.pointer (some ⟨ba0c0v2,0,none⟩))]) la0c0) #[7,8] p34_0 p34_1 Da0c0 [p34_2] 0::xblk ba0c0v2 96 ([.func (.yield La0c0v2vc0) #[] #[]])::xlp La0c0v2vc0 3 (fill (mk 165 [(4,.pointer (some ⟨ba0c0v2vc0v4,0,none⟩)),(5,.pointer (some ⟨ba0c0v2vc0v5,0,none⟩)),(6,.pointer (some ⟨ba0c0v2vc0v6,0,none⟩)),(9,.pointer (some ⟨ba0c0v2vc0v9,0,none⟩)),(11,.pointer (some ⟨ba0c0v2vc0v11,0,none⟩)),(12,.pointer (some ⟨ba0c0v2vc0v12,0,none⟩)),(13,.pointer (some ⟨ba0c0v2vc0v13,0,none⟩)),(14,.pointer (some ⟨ba0c0v2vc0v14,0,none⟩))]) la0c0v2vc0) #[44,45] p3_7 p3_8 Da0c0v2vc0 [p3_9,p3_10] t32::xblk ba0c0v2vc0v4 3 ([.int .i64 a0c0v2vc0v4v])::xblk ba0c0v2vc0v5 3 ([.int .i64 a0c0v2vc0v5v])::xblk ba0c0v2vc0v6 4 ([.bool t33])::xblk ba0c0v2vc0v9 43 ([.slice Aa0c0v2vc0v9v_0 a0c0v2vc0v9v_0.length ca0c0v2vc0v9v_0,.slice Aa0c0v2vc0v9v_1 a0c0v2vc0v9v_1.length ca0c0v2vc0v9v_1,.slice Aa0c0v2vc0v9v_2 a0c0v2vc0v9v_2.length ca0c0v2vc0v9v_2,.slice Aa0c0v2vc0v9v_3 a0c0v2vc0v9v_3.length ca0c0v2vc0v9v_3,.slice Aa0c0v2vc0v9v_4 a0c0v2vc0v9v_4.length ca0c0v2vc0v9v_4,.slice Aa0c0v2vc0v9v_5 a0c0v2vc0v9v_5.length ca0c0v2vc0v9v_5,.slice Aa0c0v2vc0v9v_6 a0c0v2vc0v9v_6.length ca0c0v2vc0v9v_6,.bool a0c0v2vc0v9v_7,.map (some ba0c0v2vc0v9v_8)])::xmap ba0c0v2vc0v9v_8 (a0c0v2vc0v9v_8m.map (kv Value.string (Value.int .i64)))::xblk ba0c0v2vc0v11 33 ([.pointer (some ⟨ba0c0v2vc0v11v,0,none⟩)])::xblk ba0c0v2vc0v11v 49 ([.map (some ba0c0v2vc0v11vv_0),.map (some ba0c0v2vc0v11vv_1),.map (some ba0c0v2vc0v11vv_2),.bool t34])::xmap ba0c0v2vc0v11vv_0 (t35.map (kv Value.string (Value.int .i64)))::xmap ba0c0v2vc0v11vv_1 (a0c0v2vc0v11vv_1m.map (kv Value.string (Value.int .i64)))::xmap ba0c0v2vc0v11vv_2 (t36.map (kv Value.string (Value.int .i64)))::xblk ba0c0v2vc0v12 46 ([.func (.func 34) #[] #[.pointer (some ⟨ba0c0v2vc0v12vc0,0,none⟩)]])::xblk ba0c0v2vc0v12vc0 32 ([.string a0c0v2vc0v12vc0v_0,.func (.func 28) #[] #[.pointer (some ⟨ba0c0v2vc0v12vc0v_1c0,0,none⟩),.pointer (some ⟨ba0c0v2vc0v12vc0v_1c1,0,none⟩)],.func (.func 31) #[] #[.pointer (some ⟨ba0c0v2vc0v12vc0v_1c1,0,none⟩),.pointer (some ⟨ba0c0v2vc0v12vc0v_1c0,0,none⟩)],.func (.func 32) #[] #[.pointer (some ⟨ba0c0v2vc0v12vc0v_1c0,0,none⟩),.pointer (some ⟨ba0c0v2vc0v12vc0v_1c1,0,none⟩)]])::xblk ba0c0v2vc0v12vc0v_1c0 33 ([.pointer (some ⟨ba0c0v2vc0v11v,0,none⟩)])::xblk ba0c0v2vc0v12vc0v_1c1 26 ([.slice Aa0c0v2vc0v12vc0v_1c1v_0 a0c0v2vc0v12vc0v_1c1v.Next.length ca0c0v2vc0v12vc0v_1c1v_0,.slice Aa0c0v2vc0v12vc0v_1c1v_1 a0c0v2vc0v12vc0v_1c1v.End.length ca0c0v2vc0v12vc0v_1c1v_1,.slice Aa0c0v2vc0v12vc0v_1c1v_2 a0c0v2vc0v12vc0v_1c1v.Value.length ca0c0v2vc0v12vc0v_1c1v_2,.int .i64 a0c0v2vc0v12vc0v_1c1v.Start])::xblk ba0c0v2vc0v13 3 ([.int .i64 a0c0v2vc0v13v])::xblk ba0c0v2vc0v14 3 ([.int .i64 t37])::xblk ba1 32 ([.string y44,.func (.func 28) #[] #[.pointer (some ⟨ba0c0v2vc0v12vc0v_1c0,0,none⟩),.pointer (some ⟨ba0c0v2vc0v12vc0v_1c1,0,none⟩)],.func (.func 31) #[] #[.pointer (some ⟨ba0c0v2vc0v12vc0v_1c1,0,none⟩),.pointer (some ⟨ba0c0v2vc0v12vc0v_1c0,0,none⟩)],.func (.func 32) #[] #[.pointer (some ⟨ba0c0v2vc0v12vc0v_1c0,0,none⟩),.pointer (some ⟨ba0c0v2vc0v12vc0v_1c1,0,none⟩)]])::xblk ba2 130 ([.nilFunc])::xmap b1 (t38.map (kv Value.string (fun v => Value.agg (enc_explore_visit v).toArray)))::xrow A29 c30 9 1 (t28.flatMap encS)::fs) w39),Runs Try.prog (fx 44) td83 (fill (mk 75 [(0,.func (.yield La0c0) #[] #[]),(1,.pointer (some ⟨ba1,0,none⟩)),(2,.pointer (some ⟨ba2,0,none⟩)),(4,.map (some b1)),(5,.slice A29 t28.length c30)]) l41) w39 R) ?_
   intro rec46 ih45 t28 t32 t33 t34 t35 t36 t37 t38 e42 hb44 he43 l41 A29 c30 w39 hS40
   have hq48 : ∀ x,Sum.inr x = e42 → x = (q0,q1,q2,q3,q4,q5,q6):=fun x hx => hq23 x (hx.trans he43)
   refine sI 6 (.inRegion (opsOf (cd44 [1,1,0,0,0,0])) []::.code (cd44 [1,1,0,0,0,1])::.code (cd44 [1,1,0,0,1])::td82) 22 hb44 (fun hp51 => ?_) fun hp334 => ?_
   ·refine sR 7 (.inRegion (opsOf (cd44 [1,1,0,0,1,0,0])) [1,2,3]::.code (cd44 [1,1,0,0,1,0,1])::td84) ?_
    obtain ⟨g52,hp53⟩:=ite_some hp51
    obtain ⟨b54,p55,hA56,-⟩:=(hS40.row 22 rfl).at_ len_encS (by omega) g52.1 g52.2
    refine r_indexAddr (c:=(cd44 [1,1,0,0,1,0,0])) (i:=1) (d:=(some 24)) (ty:=0) (t:=36) (e:=9) (n:=t28.length) (cp:=c30) (sz:=1) (kk:=.i64) (x:=(.tmp 23)) (y:=(.const (.int .i64 0))) (b:=b54) (o':=p55) (j:=(0 : Int)) (by kernel_rfl) (by kernel_rfl) (slv (by kernel_rfl) hA56) (by kernel_rfl) (by kernel_rfl) (by kernel_rfl) g52.1 g52.2 ?_
    refine rL1 9 (.tmp 24) 0 ((hS40.row 22 rfl).at2 hA56 len_encS (by omega) g52.1 g52.2) ?_
    refine sR 5 (.inRegion (opsOf (cd44 [1,1,0,0,1,0,1,0])) [1,2]::.code (cd44 [1,1,0,0,1,0,1,1])::td84) ?_
    obtain ⟨g58,hp59⟩:=ite_some hp53
    have hS64:=hS40.pick22
    obtain ⟨A60,c61,hr62,hS65⟩:=hS64.cutrow len_encS (by omega) ((1 : Int).toNat) (t28.length) (by omega) (by omega)
    refine rV (.slice 36 (.tmp 26) (some (.const (.int .i64 1))) none none) (.slice A60 ((t28.take t28.length).drop ((1 : Int).toNat)).length c61) (fun o ho _ => x_cutSl_sn (e:=9) (sz:=1) (A:=A29) (n:=t28.length) (c:=c30) (k:=.i64) (by kernel_rfl) (by kernel_rfl) (by kernel_rfl) (by kernel_rfl) g58 hr62 ho) ?_
    refine sR 8 (.inRegion (opsOf p44_12) [3,4]::.code (cd44 [1,1,0,0,1,0,1,1,0,1])::.code p44_14::td84) ?_
    obtain ⟨g67,hp68⟩:=ite_some hp59
    have hS69 : St w0 Z (xrow A60 c61 9 1 (((t28.take t28.length).drop ((1 : Int).toNat)).flatMap encS)::xlp La0c0 34 (fill (mk 17 [(2,.pointer (some ⟨ba0c0v2,0,none⟩))]) la0c0) #[7,8] p34_0 p34_1 Da0c0 [p34_2] 0::xblk ba0c0v2 96 ([.func (.yield La0c0v2vc0) #[] #[]])::xlp La0c0v2vc0 3 (fill (mk 165 [(4,.pointer (some ⟨ba0c0v2vc0v4,0,none⟩)),(5,.pointer (some ⟨ba0c0v2vc0v5,0,none⟩)),(6,.pointer (some ⟨ba0c0v2vc0v6,0,none⟩)),(9,.pointer (some ⟨ba0c0v2vc0v9,0,none⟩)),(11,.pointer (some ⟨ba0c0v2vc0v11,0,none⟩)),(12,.pointer (some ⟨ba0c0v2vc0v12,0,none⟩)),(13,.pointer (some ⟨ba0c0v2vc0v13,0,none⟩)),(14,.pointer (some ⟨ba0c0v2vc0v14,0,none⟩))]) la0c0v2vc0) #[44,45] p3_7 p3_8 Da0c0v2vc0 [p3_9,p3_10] 0::xblk ba0c0v2vc0v4 3 ([.int .i64 a0c0v2vc0v4v])::xblk ba0c0v2vc0v5 3 ([.int .i64 a0c0v2vc0v5v])::xblk ba0c0v2vc0v6 4 ([.bool t33])::xblk ba0c0v2vc0v9 43 ([.slice Aa0c0v2vc0v9v_0 a0c0v2vc0v9v_0.length ca0c0v2vc0v9v_0,.slice Aa0c0v2vc0v9v_1 a0c0v2vc0v9v_1.length ca0c0v2vc0v9v_1,.slice Aa0c0v2vc0v9v_2 a0c0v2vc0v9v_2.length ca0c0v2vc0v9v_2,.slice Aa0c0v2vc0v9v_3 a0c0v2vc0v9v_3.length ca0c0v2vc0v9v_3,.slice Aa0c0v2vc0v9v_4 a0c0v2vc0v9v_4.length ca0c0v2vc0v9v_4,.slice Aa0c0v2vc0v9v_5 a0c0v2vc0v9v_5.length ca0c0v2vc0v9v_5,.slice Aa0c0v2vc0v9v_6 a0c0v2vc0v9v_6.length ca0c0v2vc0v9v_6,.bool a0c0v2vc0v9v_7,.map (some ba0c0v2vc0v9v_8)])::xmap ba0c0v2vc0v9v_8 (a0c0v2vc0v9v_8m.map (kv Value.string (Value.int .i64)))::xblk ba0c0v2vc0v11 33 ([.pointer (some ⟨ba0c0v2vc0v11v,0,none⟩)])::xblk ba0c0v2vc0v11v 49 ([.map (some ba0c0v2vc0v11vv_0),.map (some ba0c0v2vc0v11vv_1),.map (some ba0c0v2vc0v11vv_2),.bool t34])::xmap ba0c0v2vc0v11vv_0 (t35.map (kv Value.string (Value.int .i64)))::xmap ba0c0v2vc0v11vv_1 (a0c0v2vc0v11vv_1m.map (kv Value.string (Value.int .i64)))::xmap ba0c0v2vc0v11vv_2 (t36.map (kv Value.string (Value.int .i64)))::xblk ba0c0v2vc0v12 46 ([.func (.func 34) #[] #[.pointer (some ⟨ba0c0v2vc0v12vc0,0,none⟩)]])::xblk ba0c0v2vc0v12vc0 32 ([.string a0c0v2vc0v12vc0v_0,.func (.func 28) #[] #[.pointer (some ⟨ba0c0v2vc0v12vc0v_1c0,0,none⟩),.pointer (some ⟨ba0c0v2vc0v12vc0v_1c1,0,none⟩)],.func (.func 31) #[] #[.pointer (some ⟨ba0c0v2vc0v12vc0v_1c1,0,none⟩),.pointer (some ⟨ba0c0v2vc0v12vc0v_1c0,0,none⟩)],.func (.func 32) #[] #[.pointer (some ⟨ba0c0v2vc0v12vc0v_1c0,0,none⟩),.pointer (some ⟨ba0c0v2vc0v12vc0v_1c1,0,none⟩)]])::xblk ba0c0v2vc0v12vc0v_1c0 33 ([.pointer (some ⟨ba0c0v2vc0v11v,0,none⟩)])::xblk ba0c0v2vc0v12vc0v_1c1 26 ([.slice Aa0c0v2vc0v12vc0v_1c1v_0 a0c0v2vc0v12vc0v_1c1v.Next.length ca0c0v2vc0v12vc0v_1c1v_0,.slice Aa0c0v2vc0v12vc0v_1c1v_1 a0c0v2vc0v12vc0v_1c1v.End.length ca0c0v2vc0v12vc0v_1c1v_1,.slice Aa0c0v2vc0v12vc0v_1c1v_2 a0c0v2vc0v12vc0v_1c1v.Value.length ca0c0v2vc0v12vc0v_1c1v_2,.int .i64 a0c0v2vc0v12vc0v_1c1v.Start])::xblk ba0c0v2vc0v13 3 ([.int .i64 a0c0v2vc0v13v])::xblk ba0c0v2vc0v14 3 ([.int .i64 t37])::xblk ba1 32 ([.string y44,.func (.func 28) #[] #[.pointer (some ⟨ba0c0v2vc0v12vc0v_1c0,0,none⟩),.pointer (some ⟨ba0c0v2vc0v12vc0v_1c1,0,none⟩)],.func (.func 31) #[] #[.pointer (some ⟨ba0c0v2vc0v12vc0v_1c1,0,none⟩),.pointer (some ⟨ba0c0v2vc0v12vc0v_1c0,0,none⟩)],.func (.func 32) #[] #[.pointer (some ⟨ba0c0v2vc0v12vc0v_1c0,0,none⟩),.pointer (some ⟨ba0c0v2vc0v12vc0v_1c1,0,none⟩)]])::xblk ba2 130 ([.nilFunc])::xmap b1 (t38.map (kv Value.string (fun v => Value.agg (enc_explore_visit v).toArray)))::fs) w39:=by have h:=hS65; rw [g67] at h; exact h
    obtain ⟨⟨t70,t71,t72,t73,t74,t75,t76⟩,hr77,hp78⟩:=bind_some' hp68
    try dsimp only at hp78
    have hS89:=hS69.pick19
    have hS90:=hS89.pick19
    have hS91:=hS90.pick19
    have hS92:=hS91.pick19
    have hS93:=hS92.pick19
    have hS94:=hS93.pick19
    have hS95:=hS94.pick19
    have hS96:=hS95.pick19
    have hS97:=hS96.pick19
    have hS98:=hS97.pick19
    have hS99:=hS98.pick19
    have hS100:=hS99.pick19
    have hS101:=hS100.pick19
    have hS102:=hS101.pick19
    have hS103:=hS102.pick19
    have hS104:=hS103.pick19
    have hS105:=hS104.pick19
    have hS106:=hS105.pick19
    have hS107:=hS106.pick19
    have hS108:=hS107.pick22
    refine r_yield (c:=p44_12) (i:=3) (d:=(some 31)) (args:=#[.string (gt t28 (0 : Int)),.map (some b1)]) (hS108.lp 1 rfl) (by kernel_rfl) (by kernel_rfl) (by kernel_rfl) (by kernel_rfl) (explore_States_1_r.ok (gt t28 (0 : Int)) t38 a0c0v2vc0v4v a0c0v2vc0v5v t33 a0c0v2vc0v9v_0 a0c0v2vc0v9v_1 a0c0v2vc0v9v_2 a0c0v2vc0v9v_3 a0c0v2vc0v9v_4 a0c0v2vc0v9v_5 a0c0v2vc0v9v_6 a0c0v2vc0v9v_7 a0c0v2vc0v9v_8m t35 a0c0v2vc0v11vv_1m t36 t34 a0c0v2vc0v12vc0v_0 a0c0v2vc0v12vc0v_1c1v a0c0v2vc0v13v t37 b1 La0c0 Da0c0 la0c0 ba0c0v2 La0c0v2vc0 Da0c0v2vc0 la0c0v2vc0 ba0c0v2vc0v4 ba0c0v2vc0v5 ba0c0v2vc0v6 ba0c0v2vc0v9 Aa0c0v2vc0v9v_0 ca0c0v2vc0v9v_0 Aa0c0v2vc0v9v_1 ca0c0v2vc0v9v_1 Aa0c0v2vc0v9v_2 ca0c0v2vc0v9v_2 Aa0c0v2vc0v9v_3 ca0c0v2vc0v9v_3 Aa0c0v2vc0v9v_4 ca0c0v2vc0v9v_4 Aa0c0v2vc0v9v_5 ca0c0v2vc0v9v_5 Aa0c0v2vc0v9v_6 ca0c0v2vc0v9v_6 ba0c0v2vc0v9v_8 ba0c0v2vc0v11 ba0c0v2vc0v11v ba0c0v2vc0v11vv_0 ba0c0v2vc0v11vv_1 ba0c0v2vc0v11vv_2 ba0c0v2vc0v12 ba0c0v2vc0v12vc0 ba0c0v2vc0v12vc0v_1c0 ba0c0v2vc0v12vc0v_1c1 Aa0c0v2vc0v12vc0v_1c1v_0 ca0c0v2vc0v12vc0v_1c1v_0 Aa0c0v2vc0v12vc0v_1c1v_1 ca0c0v2vc0v12vc0v_1c1v_1 Aa0c0v2vc0v12vc0v_1c1v_2 ca0c0v2vc0v12vc0v_1c1v_2 ba0c0v2vc0v13 ba0c0v2vc0v14 hS108 ha0c0v2vc0v9v_0 ha0c0v2vc0v9v_1 ha0c0v2vc0v9v_2 ha0c0v2vc0v9v_3 ha0c0v2vc0v9v_4 ha0c0v2vc0v9v_5 ha0c0v2vc0v9v_6 ha0c0v2vc0v12vc0v_1c1v_0 ha0c0v2vc0v12vc0v_1c1v_1 ha0c0v2vc0v12vc0v_1c1v_2 hr77) rfl (by kernel_rfl) ?_
    rintro _ w109 ⟨rfl,hS110⟩
    refine ⟨_,rfl,?_⟩
    refine r_split (decide (t70 = 0)) (fun h111 => ?_) (fun h112 => ?_)
    ·have hp113:=ite_t hp78 h111
     obtain rfl:=of_decide_eq_true h111
     refine sR 6 (iR p44_15 0 4::.code p44_16::td84) ?_
     refine rLa 32 (.tmp 1) (hS110.blk 21 rfl) ?_
     refine sR 1 (.inRegion (opsOf p44_15) [2,3]::.code p44_16::td84) ?_
     obtain ⟨⟨t114,t115,t116,t117⟩,hr120,hp121⟩:=bind_some' hp113
     try dsimp only at hp121
     have hS126:=hS110.pick17
     have hS127:=hS126.pick14
     have hS128:=hS127.pick14
     have hS129:=hS128.pick14
     have hS130:=hS129.pick14
     have hS131:=hS130.pick17
     refine rC (explore_moves.ok hr120 hS131 ha0c0v2vc0v12vc0v_1c1v_0 ha0c0v2vc0v12vc0v_1c1v_1 ha0c0v2vc0v12vc0v_1c1v_2) ?_
     rintro _ w132 ⟨Q118,Q119,rfl,hS133⟩
     refine ⟨_,rfl,?_⟩
     refine sR 5 (.inRegion (opsOf (cd44 [1,1,0,0,1,0,1,1,1,1,0,0])) [0,1]::.code (cd44 [1,1,0,0,1,0,1,1,1,1,0,1])::.code (cd44 [1,1,0,0,1,0,1,1,1,1,1])::td84) ?_
     refine rL1 130 (.tmp 2) 0 (hS133.blk 23 rfl) ?_
     refine sR 12 td87 ?_
     obtain ⟨v134,hv135,hp136⟩:=bind_some' hp121
     have J144 : ∀ (t137 : List ByteArray) (t141 : List (ByteArray × explore_visit)) (he146 : (t137,t141) = v134) (l145 : List Value) (A138 : Option Addr) (c139 : Nat) (w142 : World) (hS143 : St w0 Z (xlp La0c0 34 (fill (mk 17 [(2,.pointer (some ⟨ba0c0v2,0,none⟩))]) la0c0) #[7,8] p34_0 p34_1 Da0c0 [p34_2] 0::xblk ba0c0v2 96 ([.func (.yield La0c0v2vc0) #[] #[]])::xlp La0c0v2vc0 3 (fill (mk 165 [(4,.pointer (some ⟨ba0c0v2vc0v4,0,none⟩)),(5,.pointer (some ⟨ba0c0v2vc0v5,0,none⟩)),(6,.pointer (some ⟨ba0c0v2vc0v6,0,none⟩)),(9,.pointer (some ⟨ba0c0v2vc0v9,0,none⟩)),(11,.pointer (some ⟨ba0c0v2vc0v11,0,none⟩)),(12,.pointer (some ⟨ba0c0v2vc0v12,0,none⟩)),(13,.pointer (some ⟨ba0c0v2vc0v13,0,none⟩)),(14,.pointer (some ⟨ba0c0v2vc0v14,0,none⟩))]) la0c0v2vc0) #[44,45] p3_7 p3_8 Da0c0v2vc0 [p3_9,p3_10] t71::xblk ba0c0v2vc0v4 3 ([.int .i64 a0c0v2vc0v4v])::xblk ba0c0v2vc0v5 3 ([.int .i64 a0c0v2vc0v5v])::xblk ba0c0v2vc0v6 4 ([.bool t72])::xblk ba0c0v2vc0v9 43 ([.slice Aa0c0v2vc0v9v_0 a0c0v2vc0v9v_0.length ca0c0v2vc0v9v_0,.slice Aa0c0v2vc0v9v_1 a0c0v2vc0v9v_1.length ca0c0v2vc0v9v_1,.slice Aa0c0v2vc0v9v_2 a0c0v2vc0v9v_2.length ca0c0v2vc0v9v_2,.slice Aa0c0v2vc0v9v_3 a0c0v2vc0v9v_3.length ca0c0v2vc0v9v_3,.slice Aa0c0v2vc0v9v_4 a0c0v2vc0v9v_4.length ca0c0v2vc0v9v_4,.slice Aa0c0v2vc0v9v_5 a0c0v2vc0v9v_5.length ca0c0v2vc0v9v_5,.slice Aa0c0v2vc0v9v_6 a0c0v2vc0v9v_6.length ca0c0v2vc0v9v_6,.bool a0c0v2vc0v9v_7,.map (some ba0c0v2vc0v9v_8)])::xmap ba0c0v2vc0v9v_8 (a0c0v2vc0v9v_8m.map (kv Value.string (Value.int .i64)))::xblk ba0c0v2vc0v11 33 ([.pointer (some ⟨ba0c0v2vc0v11v,0,none⟩)])::xblk ba0c0v2vc0v11v 49 ([.map (some ba0c0v2vc0v11vv_0),.map (some ba0c0v2vc0v11vv_1),.map (some ba0c0v2vc0v11vv_2),.bool t115])::xmap ba0c0v2vc0v11vv_0 (t116.map (kv Value.string (Value.int .i64)))::xmap ba0c0v2vc0v11vv_1 (a0c0v2vc0v11vv_1m.map (kv Value.string (Value.int .i64)))::xmap ba0c0v2vc0v11vv_2 (t117.map (kv Value.string (Value.int .i64)))::xblk ba0c0v2vc0v12 46 ([.func (.func 34) #[] #[.pointer (some ⟨ba0c0v2vc0v12vc0,0,none⟩)]])::xblk ba0c0v2vc0v12vc0 32 ([.string a0c0v2vc0v12vc0v_0,.func (.func 28) #[] #[.pointer (some ⟨ba0c0v2vc0v12vc0v_1c0,0,none⟩),.pointer (some ⟨ba0c0v2vc0v12vc0v_1c1,0,none⟩)],.func (.func 31) #[] #[.pointer (some ⟨ba0c0v2vc0v12vc0v_1c1,0,none⟩),.pointer (some ⟨ba0c0v2vc0v12vc0v_1c0,0,none⟩)],.func (.func 32) #[] #[.pointer (some ⟨ba0c0v2vc0v12vc0v_1c0,0,none⟩),.pointer (some ⟨ba0c0v2vc0v12vc0v_1c1,0,none⟩)]])::xblk ba0c0v2vc0v12vc0v_1c0 33 ([.pointer (some ⟨ba0c0v2vc0v11v,0,none⟩)])::xblk ba0c0v2vc0v12vc0v_1c1 26 ([.slice Aa0c0v2vc0v12vc0v_1c1v_0 a0c0v2vc0v12vc0v_1c1v.Next.length ca0c0v2vc0v12vc0v_1c1v_0,.slice Aa0c0v2vc0v12vc0v_1c1v_1 a0c0v2vc0v12vc0v_1c1v.End.length ca0c0v2vc0v12vc0v_1c1v_1,.slice Aa0c0v2vc0v12vc0v_1c1v_2 a0c0v2vc0v12vc0v_1c1v.Value.length ca0c0v2vc0v12vc0v_1c1v_2,.int .i64 a0c0v2vc0v12vc0v_1c1v.Start])::xblk ba0c0v2vc0v13 3 ([.int .i64 a0c0v2vc0v13v])::xblk ba0c0v2vc0v14 3 ([.int .i64 t76])::xblk ba1 32 ([.string y44,.func (.func 28) #[] #[.pointer (some ⟨ba0c0v2vc0v12vc0v_1c0,0,none⟩),.pointer (some ⟨ba0c0v2vc0v12vc0v_1c1,0,none⟩)],.func (.func 31) #[] #[.pointer (some ⟨ba0c0v2vc0v12vc0v_1c1,0,none⟩),.pointer (some ⟨ba0c0v2vc0v12vc0v_1c0,0,none⟩)],.func (.func 32) #[] #[.pointer (some ⟨ba0c0v2vc0v12vc0v_1c0,0,none⟩),.pointer (some ⟨ba0c0v2vc0v12vc0v_1c1,0,none⟩)]])::xblk ba2 130 ([.nilFunc])::xmap b1 (t141.map (kv Value.string (fun v => Value.agg (enc_explore_visit v).toArray)))::xrow A138 c139 9 1 (t137.flatMap encS)::fs) w142),Runs Try.prog (fx 44) td84 (fill (mk 75 [(0,.func (.yield La0c0) #[] #[]),(1,.pointer (some ⟨ba1,0,none⟩)),(2,.pointer (some ⟨ba2,0,none⟩)),(4,.map (some b1)),(5,.slice A138 t137.length c139)]) l145) w142 R:=by
      intro t137 t141 he146 l145 A138 c139 w142 hS143
      subst he146
      try dsimp only at hp136
      refine sR 1 td82 ?_
      refine sR 1 td83 ?_
      exact rF _ (ih45 t137 t71 t72 t115 t116 t117 t76 t141 _ hp136 he43 _ A138 c139 _ hS143)
     have L161 : ∀ (t147 : List ByteArray) (t151 : Int) (t152 : List (ByteArray × explore_visit)) (e156 : ((List ByteArray) × (List (ByteArray × explore_visit)))),explore_walk_1.l1 t28 t114 t147 t151 t152 = some e156 → e156 = v134 → ∀ (l155 : List Value) (A148 : Option Addr) (c149 : Nat) (w153 : World) (hS154 : St w0 Z (xlp La0c0 34 (fill (mk 17 [(2,.pointer (some ⟨ba0c0v2,0,none⟩))]) la0c0) #[7,8] p34_0 p34_1 Da0c0 [p34_2] 0::xblk ba0c0v2 96 ([.func (.yield La0c0v2vc0) #[] #[]])::xlp La0c0v2vc0 3 (fill (mk 165 [(4,.pointer (some ⟨ba0c0v2vc0v4,0,none⟩)),(5,.pointer (some ⟨ba0c0v2vc0v5,0,none⟩)),(6,.pointer (some ⟨ba0c0v2vc0v6,0,none⟩)),(9,.pointer (some ⟨ba0c0v2vc0v9,0,none⟩)),(11,.pointer (some ⟨ba0c0v2vc0v11,0,none⟩)),(12,.pointer (some ⟨ba0c0v2vc0v12,0,none⟩)),(13,.pointer (some ⟨ba0c0v2vc0v13,0,none⟩)),(14,.pointer (some ⟨ba0c0v2vc0v14,0,none⟩))]) la0c0v2vc0) #[44,45] p3_7 p3_8 Da0c0v2vc0 [p3_9,p3_10] t71::xblk ba0c0v2vc0v4 3 ([.int .i64 a0c0v2vc0v4v])::xblk ba0c0v2vc0v5 3 ([.int .i64 a0c0v2vc0v5v])::xblk ba0c0v2vc0v6 4 ([.bool t72])::xblk ba0c0v2vc0v9 43 ([.slice Aa0c0v2vc0v9v_0 a0c0v2vc0v9v_0.length ca0c0v2vc0v9v_0,.slice Aa0c0v2vc0v9v_1 a0c0v2vc0v9v_1.length ca0c0v2vc0v9v_1,.slice Aa0c0v2vc0v9v_2 a0c0v2vc0v9v_2.length ca0c0v2vc0v9v_2,.slice Aa0c0v2vc0v9v_3 a0c0v2vc0v9v_3.length ca0c0v2vc0v9v_3,.slice Aa0c0v2vc0v9v_4 a0c0v2vc0v9v_4.length ca0c0v2vc0v9v_4,.slice Aa0c0v2vc0v9v_5 a0c0v2vc0v9v_5.length ca0c0v2vc0v9v_5,.slice Aa0c0v2vc0v9v_6 a0c0v2vc0v9v_6.length ca0c0v2vc0v9v_6,.bool a0c0v2vc0v9v_7,.map (some ba0c0v2vc0v9v_8)])::xmap ba0c0v2vc0v9v_8 (a0c0v2vc0v9v_8m.map (kv Value.string (Value.int .i64)))::xblk ba0c0v2vc0v11 33 ([.pointer (some ⟨ba0c0v2vc0v11v,0,none⟩)])::xblk ba0c0v2vc0v11v 49 ([.map (some ba0c0v2vc0v11vv_0),.map (some ba0c0v2vc0v11vv_1),.map (some ba0c0v2vc0v11vv_2),.bool t115])::xmap ba0c0v2vc0v11vv_0 (t116.map (kv Value.string (Value.int .i64)))::xmap ba0c0v2vc0v11vv_1 (a0c0v2vc0v11vv_1m.map (kv Value.string (Value.int .i64)))::xmap ba0c0v2vc0v11vv_2 (t117.map (kv Value.string (Value.int .i64)))::xblk ba0c0v2vc0v12 46 ([.func (.func 34) #[] #[.pointer (some ⟨ba0c0v2vc0v12vc0,0,none⟩)]])::xblk ba0c0v2vc0v12vc0 32 ([.string a0c0v2vc0v12vc0v_0,.func (.func 28) #[] #[.pointer (some ⟨ba0c0v2vc0v12vc0v_1c0,0,none⟩),.pointer (some ⟨ba0c0v2vc0v12vc0v_1c1,0,none⟩)],.func (.func 31) #[] #[.pointer (some ⟨ba0c0v2vc0v12vc0v_1c1,0,none⟩),.pointer (some ⟨ba0c0v2vc0v12vc0v_1c0,0,none⟩)],.func (.func 32) #[] #[.pointer (some ⟨ba0c0v2vc0v12vc0v_1c0,0,none⟩),.pointer (some ⟨ba0c0v2vc0v12vc0v_1c1,0,none⟩)]])::xblk ba0c0v2vc0v12vc0v_1c0 33 ([.pointer (some ⟨ba0c0v2vc0v11v,0,none⟩)])::xblk ba0c0v2vc0v12vc0v_1c1 26 ([.slice Aa0c0v2vc0v12vc0v_1c1v_0 a0c0v2vc0v12vc0v_1c1v.Next.length ca0c0v2vc0v12vc0v_1c1v_0,.slice Aa0c0v2vc0v12vc0v_1c1v_1 a0c0v2vc0v12vc0v_1c1v.End.length ca0c0v2vc0v12vc0v_1c1v_1,.slice Aa0c0v2vc0v12vc0v_1c1v_2 a0c0v2vc0v12vc0v_1c1v.Value.length ca0c0v2vc0v12vc0v_1c1v_2,.int .i64 a0c0v2vc0v12vc0v_1c1v.Start])::xblk ba0c0v2vc0v13 3 ([.int .i64 a0c0v2vc0v13v])::xblk ba0c0v2vc0v14 3 ([.int .i64 t76])::xblk ba1 32 ([.string y44,.func (.func 28) #[] #[.pointer (some ⟨ba0c0v2vc0v12vc0v_1c0,0,none⟩),.pointer (some ⟨ba0c0v2vc0v12vc0v_1c1,0,none⟩)],.func (.func 31) #[] #[.pointer (some ⟨ba0c0v2vc0v12vc0v_1c1,0,none⟩),.pointer (some ⟨ba0c0v2vc0v12vc0v_1c0,0,none⟩)],.func (.func 32) #[] #[.pointer (some ⟨ba0c0v2vc0v12vc0v_1c0,0,none⟩),.pointer (some ⟨ba0c0v2vc0v12vc0v_1c1,0,none⟩)]])::xblk ba2 130 ([.nilFunc])::xmap b1 (t152.map (kv Value.string (fun v => Value.agg (enc_explore_visit v).toArray)))::xrow A148 c149 9 1 (t147.flatMap encS)::xrow Q118 Q119 122 4 (t114.flatMap enc_explore_edge)::fs) w153),Runs Try.prog (fx 44) td87 (fill (mk 75 [(0,.func (.yield La0c0) #[] #[]),(1,.pointer (some ⟨ba1,0,none⟩)),(2,.pointer (some ⟨ba2,0,none⟩)),(4,.map (some b1)),(5,.slice A148 t147.length c149),(6,.string (gt t28 (0 : Int))),(42,.slice Q118 t114.length Q119),(43,.int .i64 (t114.length : Int)),(44,.int .i64 t151)]) l155) w153 R:=by
      refine explore_walk_1.l1.partial_correctness t28 t114 (fun t147 t151 t152 e156 => e156 = v134 → ∀ (l155 : List Value) (A148 : Option Addr) (c149 : Nat) (w153 : World) (hS154 : St w0 Z (xlp La0c0 34 (fill (mk 17 [(2,.pointer (some ⟨ba0c0v2,0,none⟩))]) la0c0) #[7,8] p34_0 p34_1 Da0c0 [p34_2] 0::xblk ba0c0v2 96 ([.func (.yield La0c0v2vc0) #[] #[]])::xlp La0c0v2vc0 3 (fill (mk 165 [(4,.pointer (some ⟨ba0c0v2vc0v4,0,none⟩)),(5,.pointer (some ⟨ba0c0v2vc0v5,0,none⟩)),(6,.pointer (some ⟨ba0c0v2vc0v6,0,none⟩)),(9,.pointer (some ⟨ba0c0v2vc0v9,0,none⟩)),(11,.pointer (some ⟨ba0c0v2vc0v11,0,none⟩)),(12,.pointer (some ⟨ba0c0v2vc0v12,0,none⟩)),(13,.pointer (some ⟨ba0c0v2vc0v13,0,none⟩)),(14,.pointer (some ⟨ba0c0v2vc0v14,0,none⟩))]) la0c0v2vc0) #[44,45] p3_7 p3_8 Da0c0v2vc0 [p3_9,p3_10] t71::xblk ba0c0v2vc0v4 3 ([.int .i64 a0c0v2vc0v4v])::xblk ba0c0v2vc0v5 3 ([.int .i64 a0c0v2vc0v5v])::xblk ba0c0v2vc0v6 4 ([.bool t72])::xblk ba0c0v2vc0v9 43 ([.slice Aa0c0v2vc0v9v_0 a0c0v2vc0v9v_0.length ca0c0v2vc0v9v_0,.slice Aa0c0v2vc0v9v_1 a0c0v2vc0v9v_1.length ca0c0v2vc0v9v_1,.slice Aa0c0v2vc0v9v_2 a0c0v2vc0v9v_2.length ca0c0v2vc0v9v_2,.slice Aa0c0v2vc0v9v_3 a0c0v2vc0v9v_3.length ca0c0v2vc0v9v_3,.slice Aa0c0v2vc0v9v_4 a0c0v2vc0v9v_4.length ca0c0v2vc0v9v_4,.slice Aa0c0v2vc0v9v_5 a0c0v2vc0v9v_5.length ca0c0v2vc0v9v_5,.slice Aa0c0v2vc0v9v_6 a0c0v2vc0v9v_6.length ca0c0v2vc0v9v_6,.bool a0c0v2vc0v9v_7,.map (some ba0c0v2vc0v9v_8)])::xmap ba0c0v2vc0v9v_8 (a0c0v2vc0v9v_8m.map (kv Value.string (Value.int .i64)))::xblk ba0c0v2vc0v11 33 ([.pointer (some ⟨ba0c0v2vc0v11v,0,none⟩)])::xblk ba0c0v2vc0v11v 49 ([.map (some ba0c0v2vc0v11vv_0),.map (some ba0c0v2vc0v11vv_1),.map (some ba0c0v2vc0v11vv_2),.bool t115])::xmap ba0c0v2vc0v11vv_0 (t116.map (kv Value.string (Value.int .i64)))::xmap ba0c0v2vc0v11vv_1 (a0c0v2vc0v11vv_1m.map (kv Value.string (Value.int .i64)))::xmap ba0c0v2vc0v11vv_2 (t117.map (kv Value.string (Value.int .i64)))::xblk ba0c0v2vc0v12 46 ([.func (.func 34) #[] #[.pointer (some ⟨ba0c0v2vc0v12vc0,0,none⟩)]])::xblk ba0c0v2vc0v12vc0 32 ([.string a0c0v2vc0v12vc0v_0,.func (.func 28) #[] #[.pointer (some ⟨ba0c0v2vc0v12vc0v_1c0,0,none⟩),.pointer (some ⟨ba0c0v2vc0v12vc0v_1c1,0,none⟩)],.func (.func 31) #[] #[.pointer (some ⟨ba0c0v2vc0v12vc0v_1c1,0,none⟩),.pointer (some ⟨ba0c0v2vc0v12vc0v_1c0,0,none⟩)],.func (.func 32) #[] #[.pointer (some ⟨ba0c0v2vc0v12vc0v_1c0,0,none⟩),.pointer (some ⟨ba0c0v2vc0v12vc0v_1c1,0,none⟩)]])::xblk ba0c0v2vc0v12vc0v_1c0 33 ([.pointer (some ⟨ba0c0v2vc0v11v,0,none⟩)])::xblk ba0c0v2vc0v12vc0v_1c1 26 ([.slice Aa0c0v2vc0v12vc0v_1c1v_0 a0c0v2vc0v12vc0v_1c1v.Next.length ca0c0v2vc0v12vc0v_1c1v_0,.slice Aa0c0v2vc0v12vc0v_1c1v_1 a0c0v2vc0v12vc0v_1c1v.End.length ca0c0v2vc0v12vc0v_1c1v_1,.slice Aa0c0v2vc0v12vc0v_1c1v_2 a0c0v2vc0v12vc0v_1c1v.Value.length ca0c0v2vc0v12vc0v_1c1v_2,.int .i64 a0c0v2vc0v12vc0v_1c1v.Start])::xblk ba0c0v2vc0v13 3 ([.int .i64 a0c0v2vc0v13v])::xblk ba0c0v2vc0v14 3 ([.int .i64 t76])::xblk ba1 32 ([.string y44,.func (.func 28) #[] #[.pointer (some ⟨ba0c0v2vc0v12vc0v_1c0,0,none⟩),.pointer (some ⟨ba0c0v2vc0v12vc0v_1c1,0,none⟩)],.func (.func 31) #[] #[.pointer (some ⟨ba0c0v2vc0v12vc0v_1c1,0,none⟩),.pointer (some ⟨ba0c0v2vc0v12vc0v_1c0,0,none⟩)],.func (.func 32) #[] #[.pointer (some ⟨ba0c0v2vc0v12vc0v_1c0,0,none⟩),.pointer (some ⟨ba0c0v2vc0v12vc0v_1c1,0,none⟩)]])::xblk ba2 130 ([.nilFunc])::xmap b1 (t152.map (kv Value.string (fun v => Value.agg (enc_explore_visit v).toArray)))::xrow A148 c149 9 1 (t147.flatMap encS)::xrow Q118 Q119 122 4 (t114.flatMap enc_explore_edge)::fs) w153),Runs Try.prog (fx 44) td87 (fill (mk 75 [(0,.func (.yield La0c0) #[] #[]),(1,.pointer (some ⟨ba1,0,none⟩)),(2,.pointer (some ⟨ba2,0,none⟩)),(4,.map (some b1)),(5,.slice A148 t147.length c149),(6,.string (gt t28 (0 : Int))),(42,.slice Q118 t114.length Q119),(43,.int .i64 (t114.length : Int)),(44,.int .i64 t151)]) l155) w153 R) ?_
      intro rec160 ih159 t147 t151 t152 e156 hb158 he157 l155 A148 c149 w153 hS154
      refine sI 3 (.inRegion (opsOf (cd44 [1,1,0,0,1,0,1,1,1,1,1,1,0,0,0])) []::.code (cd44 [1,1,0,0,1,0,1,1,1,1,1,1,0,0,1])::td86) 45 hb158 (fun hp164 => ?_) fun hp303 => ?_
      ·refine sR 8 (iR p44_23 0 4::.code (cd44 [1,1,0,0,1,0,1,1,1,1,1,1,0,0,1,1,0,0,1])::td89) ?_
       obtain ⟨g165,hp166⟩:=ite_some hp164
       obtain ⟨b167,p168,hA169,-⟩:=(hS154.row 23 rfl).at_ len_explore_edge (by omega) g165.1 g165.2
       refine r_indexAddr (c:=p44_23) (i:=0) (d:=(some 46)) (ty:=0) (t:=120) (e:=122) (n:=t114.length) (cp:=Q119) (sz:=4) (kk:=.i64) (x:=(.tmp 42)) (y:=(.tmp 44)) (b:=b167) (o':=p168) (j:=t151) (by kernel_rfl) (by kernel_rfl) (slv (by kernel_rfl) hA169) (by kernel_rfl) (by kernel_rfl) (by kernel_rfl) g165.1 g165.2 ?_
       refine rLa 122 (.tmp 46) ((hS154.row 23 rfl).at2 hA169 len_explore_edge (by omega) g165.1 g165.2) ?_
       refine rA 122 (.agg (enc_explore_edge (⟨⟨0,0,0⟩,(⟨#[]⟩ : ByteArray)⟩ : explore_edge)).toArray) (enc_explore_edge (⟨⟨0,0,0⟩,(⟨#[]⟩ : ByteArray)⟩ : explore_edge)) hS154 ?_
       intro b171 w172 hS173
       refine rSA 122 (.tmp 9) (.tmp 47) (enc_explore_edge (gt t114 t151)) hS173 (one_explore_edge _) ?_
       intro w175 hS176
       refine sR 5 (iR p44_26 2 8::.code p44_27::td89) ?_
       refine rL1 9 (.tmp 50) 3 (hS176.blk 0 rfl) ?_
       refine rV (.lookup 100 (.tmp 49) (.tmp 51) true) (.tuple #[.agg (enc_explore_visit ((mget t152 ((gt t114 t151).to)).getD (⟨0,(⟨#[]⟩ : ByteArray),⟨0,0,0⟩⟩ : explore_visit))).toArray,.bool ((mget t152 ((gt t114 t151).to)).isSome)]) (fun o ho _ => x_lookup2 (eK:=Value.string) (eV:=(fun v => Value.agg (enc_explore_visit v).toArray)) (dk:=.string) (b:=b1) (t:=100) (kt:=9) (et:=102) (m:=t152) (kk:=((gt t114 t151).to)) (z:=(⟨0,(⟨#[]⟩ : ByteArray),⟨0,0,0⟩⟩ : explore_visit)) (hS176.at 22 rfl) key_str (by kernel_rfl) (by kernel_rfl) (by kernel_rfl) (by kernel_rfl) (by kernel_rfl) ho) ?_
       obtain ⟨v177,hv178,hp179⟩:=bind_some' hp166
       have J183 : ∀ (t180 : Bool) (he185 : t180 = v177) (l184 : List Value) (w181 : World) (hS182 : St w0 Z (xlp La0c0 34 (fill (mk 17 [(2,.pointer (some ⟨ba0c0v2,0,none⟩))]) la0c0) #[7,8] p34_0 p34_1 Da0c0 [p34_2] 0::xblk ba0c0v2 96 ([.func (.yield La0c0v2vc0) #[] #[]])::xlp La0c0v2vc0 3 (fill (mk 165 [(4,.pointer (some ⟨ba0c0v2vc0v4,0,none⟩)),(5,.pointer (some ⟨ba0c0v2vc0v5,0,none⟩)),(6,.pointer (some ⟨ba0c0v2vc0v6,0,none⟩)),(9,.pointer (some ⟨ba0c0v2vc0v9,0,none⟩)),(11,.pointer (some ⟨ba0c0v2vc0v11,0,none⟩)),(12,.pointer (some ⟨ba0c0v2vc0v12,0,none⟩)),(13,.pointer (some ⟨ba0c0v2vc0v13,0,none⟩)),(14,.pointer (some ⟨ba0c0v2vc0v14,0,none⟩))]) la0c0v2vc0) #[44,45] p3_7 p3_8 Da0c0v2vc0 [p3_9,p3_10] t71::xblk ba0c0v2vc0v4 3 ([.int .i64 a0c0v2vc0v4v])::xblk ba0c0v2vc0v5 3 ([.int .i64 a0c0v2vc0v5v])::xblk ba0c0v2vc0v6 4 ([.bool t72])::xblk ba0c0v2vc0v9 43 ([.slice Aa0c0v2vc0v9v_0 a0c0v2vc0v9v_0.length ca0c0v2vc0v9v_0,.slice Aa0c0v2vc0v9v_1 a0c0v2vc0v9v_1.length ca0c0v2vc0v9v_1,.slice Aa0c0v2vc0v9v_2 a0c0v2vc0v9v_2.length ca0c0v2vc0v9v_2,.slice Aa0c0v2vc0v9v_3 a0c0v2vc0v9v_3.length ca0c0v2vc0v9v_3,.slice Aa0c0v2vc0v9v_4 a0c0v2vc0v9v_4.length ca0c0v2vc0v9v_4,.slice Aa0c0v2vc0v9v_5 a0c0v2vc0v9v_5.length ca0c0v2vc0v9v_5,.slice Aa0c0v2vc0v9v_6 a0c0v2vc0v9v_6.length ca0c0v2vc0v9v_6,.bool a0c0v2vc0v9v_7,.map (some ba0c0v2vc0v9v_8)])::xmap ba0c0v2vc0v9v_8 (a0c0v2vc0v9v_8m.map (kv Value.string (Value.int .i64)))::xblk ba0c0v2vc0v11 33 ([.pointer (some ⟨ba0c0v2vc0v11v,0,none⟩)])::xblk ba0c0v2vc0v11v 49 ([.map (some ba0c0v2vc0v11vv_0),.map (some ba0c0v2vc0v11vv_1),.map (some ba0c0v2vc0v11vv_2),.bool t115])::xmap ba0c0v2vc0v11vv_0 (t116.map (kv Value.string (Value.int .i64)))::xmap ba0c0v2vc0v11vv_1 (a0c0v2vc0v11vv_1m.map (kv Value.string (Value.int .i64)))::xmap ba0c0v2vc0v11vv_2 (t117.map (kv Value.string (Value.int .i64)))::xblk ba0c0v2vc0v12 46 ([.func (.func 34) #[] #[.pointer (some ⟨ba0c0v2vc0v12vc0,0,none⟩)]])::xblk ba0c0v2vc0v12vc0 32 ([.string a0c0v2vc0v12vc0v_0,.func (.func 28) #[] #[.pointer (some ⟨ba0c0v2vc0v12vc0v_1c0,0,none⟩),.pointer (some ⟨ba0c0v2vc0v12vc0v_1c1,0,none⟩)],.func (.func 31) #[] #[.pointer (some ⟨ba0c0v2vc0v12vc0v_1c1,0,none⟩),.pointer (some ⟨ba0c0v2vc0v12vc0v_1c0,0,none⟩)],.func (.func 32) #[] #[.pointer (some ⟨ba0c0v2vc0v12vc0v_1c0,0,none⟩),.pointer (some ⟨ba0c0v2vc0v12vc0v_1c1,0,none⟩)]])::xblk ba0c0v2vc0v12vc0v_1c0 33 ([.pointer (some ⟨ba0c0v2vc0v11v,0,none⟩)])::xblk ba0c0v2vc0v12vc0v_1c1 26 ([.slice Aa0c0v2vc0v12vc0v_1c1v_0 a0c0v2vc0v12vc0v_1c1v.Next.length ca0c0v2vc0v12vc0v_1c1v_0,.slice Aa0c0v2vc0v12vc0v_1c1v_1 a0c0v2vc0v12vc0v_1c1v.End.length ca0c0v2vc0v12vc0v_1c1v_1,.slice Aa0c0v2vc0v12vc0v_1c1v_2 a0c0v2vc0v12vc0v_1c1v.Value.length ca0c0v2vc0v12vc0v_1c1v_2,.int .i64 a0c0v2vc0v12vc0v_1c1v.Start])::xblk ba0c0v2vc0v13 3 ([.int .i64 a0c0v2vc0v13v])::xblk ba0c0v2vc0v14 3 ([.int .i64 t76])::xblk ba1 32 ([.string y44,.func (.func 28) #[] #[.pointer (some ⟨ba0c0v2vc0v12vc0v_1c0,0,none⟩),.pointer (some ⟨ba0c0v2vc0v12vc0v_1c1,0,none⟩)],.func (.func 31) #[] #[.pointer (some ⟨ba0c0v2vc0v12vc0v_1c1,0,none⟩),.pointer (some ⟨ba0c0v2vc0v12vc0v_1c0,0,none⟩)],.func (.func 32) #[] #[.pointer (some ⟨ba0c0v2vc0v12vc0v_1c0,0,none⟩),.pointer (some ⟨ba0c0v2vc0v12vc0v_1c1,0,none⟩)]])::xblk ba2 130 ([.nilFunc])::xmap b1 (t152.map (kv Value.string (fun v => Value.agg (enc_explore_visit v).toArray)))::xrow A148 c149 9 1 (t147.flatMap encS)::xblk b171 122 (enc_explore_edge (gt t114 t151))::xrow Q118 Q119 122 4 (t114.flatMap enc_explore_edge)::fs) w181),Runs Try.prog (fx 44) td91 (fill (mk 75 [(0,.func (.yield La0c0) #[] #[]),(1,.pointer (some ⟨ba1,0,none⟩)),(2,.pointer (some ⟨ba2,0,none⟩)),(4,.map (some b1)),(5,.slice A148 t147.length c149),(6,.string (gt t28 (0 : Int))),(9,.pointer (some ⟨b171,0,none⟩)),(11,.bool t180),(42,.slice Q118 t114.length Q119),(43,.int .i64 (t114.length : Int)),(44,.int .i64 t151)]) l184) w181 R:=by
        intro t180 he185 l184 w181 hS182
        subst he185
        try dsimp only at hp179
        refine sI 3 (.inRegion (opsOf p44_28) []::td90) 56 hp179 (fun hp188 => ?_) fun hp232 => ?_
        ·refine sR 6 (iR p44_30 2 11::td92) ?_
         refine rL1 9 (.tmp 58) 3 (hS182.blk 23 rfl) ?_
         refine sR 2 (iR p44_30 5 8::td92) ?_
         refine rV (.lookup 100 (.tmp 60) (.tmp 61) false) (.agg (enc_explore_visit ((mget t152 (gt t28 (0 : Int))).getD (⟨0,(⟨#[]⟩ : ByteArray),⟨0,0,0⟩⟩ : explore_visit))).toArray) (fun o ho _ => x_lookup1 (eK:=Value.string) (eV:=(fun v => Value.agg (enc_explore_visit v).toArray)) (dk:=.string) (b:=b1) (t:=100) (kt:=9) (et:=102) (m:=t152) (kk:=(gt t28 (0 : Int))) (z:=(⟨0,(⟨#[]⟩ : ByteArray),⟨0,0,0⟩⟩ : explore_visit)) (hS182.at 21 rfl) key_str (by kernel_rfl) (by kernel_rfl) (by kernel_rfl) (by kernel_rfl) (by kernel_rfl) ho) ?_
         refine sR 4 (.inRegion (opsOf p44_30) [10,11,12]::td92) ?_
         refine rLa 88 (.tmp 66) (sub_explore_edge_by (hS182.blk 23 rfl)) ?_
         refine sR 1 (.inRegion (opsOf p44_30) [12]::td92) ?_
         have hS189:=hS182.pick21
         refine r_mapUpdate (c:=p44_30) (i:=12) (d:=none) (ty:=0) (eK:=Value.string) (eV:=(fun v => Value.agg (enc_explore_visit v).toArray)) (dk:=.string) (b:=b1) (t:=100) (kt:=9) (et:=102) (x:=(.tmp 57)) (y:=(.tmp 59)) (z:=(.tmp 68)) (m:=t152) (kk:=((gt t114 t151).to)) (v:=(⟨(IntKind.i64.wrap ((((mget t152 (gt t28 (0 : Int))).getD (⟨0,(⟨#[]⟩ : ByteArray),⟨0,0,0⟩⟩ : explore_visit)).depth) + 1)),(gt t28 (0 : Int)),(gt t114 t151).by_⟩ : explore_visit)) hS189 (by kernel_rfl) (by kernel_rfl) key_str (by kernel_rfl) (by kernel_rfl) (by kernel_rfl) (by kernel_rfl) (by kernel_rfl) ?_
         intro w190 hS191
         refine sR 4 (iR p44_31 2 4::td89) ?_
         refine rL1 9 (.tmp 70) 3 (hS191.blk 23 rfl) ?_
         refine r_lit (c:=p44_31) (i:=3) (d:=(some 72)) (ty:=36) (t:=36) (e:=9) (sz:=1) (n:=1) (parts:=#[(0,(.tmp 71))]) (vs:=[(0,.string ((gt t114 t151).to))]) (z:=zeroOf Try.prog 9) (cs':=([(gt t114 t151).to] : List ByteArray).flatMap encS) hS191 (by kernel_rfl) (by kernel_rfl) (by kernel_rfl) (by kernel_rfl) (by kernel_rfl) (by decide) (by decide) (by kernel_rfl) rfl (Parts.cons (c:=[.string ((gt t114 t151).to)]) (by kernel_rfl) rfl Parts.nil) rfl ?_
         intro b193 w194 hS195
         have hS196:=hS195.pick23
         obtain ⟨g197,hp198⟩:=ite_some hp188
         refine r_append (c:=p44_31) (i:=4) (d:=(some 73)) (ty:=36) (enc:=encS) (e:=9) (u:=9) (t:=36) (t2:=36) (sz:=1) (cp:=c149) (A:=A148) (bytes:=16) (xs:=t147) (ys:=([(gt t114 t151).to] : List ByteArray)) (s:=(.tmp 69)) (x:=(.tmp 72)) (xv:=.slice (some ⟨b193,0,none⟩) ([(gt t114 t151).to] : List ByteArray).length 1) (info:=infoOf Try.prog 9) (z:=zeroOf Try.prog 9) (ycs:=([(gt t114 t151).to] : List ByteArray).flatMap encS) hS196 (by kernel_rfl) (by kernel_rfl) (by kernel_rfl) (by kernel_rfl) (by kernel_rfl) (.inl (by kernel_rfl)) (by kernel_rfl) (by kernel_rfl) (by kernel_rfl) (by kernel_rfl) (by kernel_rfl) (by omega) len_encS one_encS (src_row (hS196.row 1 rfl) (by omega) len_encS) rfl g197 (by omega) ?_
         intro A199 c200 w201 hS202
         refine sR 7 td86 ?_
         have hS204:=hS202.pick1
         have hS205:=hS204.drop
         have hS206:=hS205.pick23
         have hS207:=hS206.drop
         have hS208:=hS207.pick23
         have hS209:=hS208.pick1
         have hS210:=hS209.pick2
         have hS211:=hS210.pick23
         have hS212:=hS211.pick23
         have hS213:=hS212.pick23
         have hS214:=hS213.pick23
         have hS215:=hS214.pick23
         have hS216:=hS215.pick23
         have hS217:=hS216.pick23
         have hS218:=hS217.pick23
         have hS219:=hS218.pick23
         have hS220:=hS219.pick23
         have hS221:=hS220.pick23
         have hS222:=hS221.pick23
         have hS223:=hS222.pick23
         have hS224:=hS223.pick23
         have hS225:=hS224.pick23
         have hS226:=hS225.pick23
         have hS227:=hS226.pick23
         have hS228:=hS227.pick23
         have hS229:=hS228.pick23
         have hS230:=hS229.pick23
         have hS231:=hS230.pick23
         refine sR 1 td87 ?_
         exact rF _ (ih159 (t147 ++ ([(gt t114 t151).to] : List ByteArray)) (IntKind.i64.wrap (t151 + 1)) (mput t152 ((gt t114 t151).to) (⟨(IntKind.i64.wrap ((((mget t152 (gt t28 (0 : Int))).getD (⟨0,(⟨#[]⟩ : ByteArray),⟨0,0,0⟩⟩ : explore_visit)).depth) + 1)),(gt t28 (0 : Int)),(gt t114 t151).by_⟩ : explore_visit)) _ hp198 he157 _ A199 c200 _ hS231)
        refine sR 8 td86 ?_
        have hS233:=hS182.pick23
        have hS234:=hS233.drop
        refine sR 1 td87 ?_
        exact rF _ (ih159 (id t147) (IntKind.i64.wrap (t151 + 1)) (id t152) _ hp232 he157 _ A148 c149 _ hS234)
       refine sI 3 (.inRegion (opsOf p44_26) [7,8,9]::.code p44_27::td89) 54 hv178 (fun hp237 => ?_) fun hp270 => ?_
       ·refine rA 102 (.agg (enc_explore_visit (⟨0,(⟨#[]⟩ : ByteArray),⟨0,0,0⟩⟩ : explore_visit)).toArray) (enc_explore_visit (⟨0,(⟨#[]⟩ : ByteArray),⟨0,0,0⟩⟩ : explore_visit)) hS176 ?_
        intro b238 w239 hS240
        refine rSA 102 (.tmp 10) (.tmp 53) (enc_explore_visit ((mget t152 ((gt t114 t151).to)).getD (⟨0,(⟨#[]⟩ : ByteArray),⟨0,0,0⟩⟩ : explore_visit))) hS240 (one_explore_visit _) ?_
        intro w242 hS243
        refine sR 3 td91 ?_
        have hS244:=hS243.drop
        have hS245:=hS244.pick24
        have hS246:=hS245.pick1
        have hS247:=hS246.pick24
        have hS248:=hS247.pick24
        have hS249:=hS248.pick24
        have hS250:=hS249.pick24
        have hS251:=hS250.pick24
        have hS252:=hS251.pick24
        have hS253:=hS252.pick24
        have hS254:=hS253.pick24
        have hS255:=hS254.pick24
        have hS256:=hS255.pick24
        have hS257:=hS256.pick24
        have hS258:=hS257.pick24
        have hS259:=hS258.pick24
        have hS260:=hS259.pick24
        have hS261:=hS260.pick24
        have hS262:=hS261.pick24
        have hS263:=hS262.pick24
        have hS264:=hS263.pick24
        have hS265:=hS264.pick24
        have hS266:=hS265.pick24
        have hS267:=hS266.pick24
        have hS268:=hS267.pick24
        have hS269:=hS268.pick24
        exact rF _ (J183 true (Option.some.inj hp237) _ _ hS269)
       refine rA 102 (.agg (enc_explore_visit (⟨0,(⟨#[]⟩ : ByteArray),⟨0,0,0⟩⟩ : explore_visit)).toArray) (enc_explore_visit (⟨0,(⟨#[]⟩ : ByteArray),⟨0,0,0⟩⟩ : explore_visit)) hS176 ?_
       intro b271 w272 hS273
       refine rSA 102 (.tmp 10) (.tmp 53) (enc_explore_visit ((mget t152 ((gt t114 t151).to)).getD (⟨0,(⟨#[]⟩ : ByteArray),⟨0,0,0⟩⟩ : explore_visit))) hS273 (one_explore_visit _) ?_
       intro w275 hS276
       refine sR 3 td91 ?_
       have hS277:=hS276.drop
       have hS278:=hS277.pick24
       have hS279:=hS278.pick1
       have hS280:=hS279.pick24
       have hS281:=hS280.pick24
       have hS282:=hS281.pick24
       have hS283:=hS282.pick24
       have hS284:=hS283.pick24
       have hS285:=hS284.pick24
       have hS286:=hS285.pick24
       have hS287:=hS286.pick24
       have hS288:=hS287.pick24
       have hS289:=hS288.pick24
       have hS290:=hS289.pick24
       have hS291:=hS290.pick24
       have hS292:=hS291.pick24
       have hS293:=hS292.pick24
       have hS294:=hS293.pick24
       have hS295:=hS294.pick24
       have hS296:=hS295.pick24
       have hS297:=hS296.pick24
       have hS298:=hS297.pick24
       have hS299:=hS298.pick24
       have hS300:=hS299.pick24
       have hS301:=hS300.pick24
       have hS302:=hS301.pick24
       exact rF _ (J183 false (Option.some.inj hp270) _ _ hS302)
      refine sR 4 td84 ?_
      have hS304:=hS154.pick23
      have hS305:=hS304.drop
      exact rF _ (J144 t147 t152 ((Option.some.inj hp303).trans he157) _ A148 c149 _ hS305)
     have hS306:=hS133.pick21
     have hS307:=hS306.pick8
     have hS308:=hS307.pick23
     have hS309:=hS308.pick23
     have hS310:=hS309.pick23
     have hS311:=hS310.pick23
     have hS312:=hS311.pick12
     have hS313:=hS312.pick8
     have hS314:=hS313.pick23
     have hS315:=hS314.pick23
     have hS316:=hS315.pick14
     have hS317:=hS316.pick14
     have hS318:=hS317.pick14
     have hS319:=hS318.pick14
     have hS320:=hS319.pick23
     have hS321:=hS320.pick23
     have hS322:=hS321.pick23
     have hS323:=hS322.pick23
     have hS324:=hS323.pick23
     have hS325:=hS324.pick23
     have hS326:=hS325.pick23
     have hS327:=hS326.pick23
     have hS328:=hS327.pick23
     exact rF _ (L161 ((t28.take t28.length).drop ((1 : Int).toNat)) 0 t38 _ hv135 rfl _ A60 c61 _ hS328)
    have hp329:=ite_f hp78 h112
    refine sR 3 (.code (cd44 [1,1,0,0,1,0,1,1,0,1,0])::.code p44_14::td84) ?_
    have hS330:=hS110.drop
    have hS331:=hS330.pick19
    have hS332:=hS331.drop
    refine rR (.tuple #[]) Try.func44 ?_
    cases hq48 _ (Option.some.inj hp329)
    exact hR _ _ ⟨rfl,hS332⟩
   refine sR 3 [] ?_
   have hS335:=hS40.pick21
   have hS336:=hS335.drop
   have hS337:=hS336.pick21
   have hS338:=hS337.drop
   exact rF _ (J24 t32 t33 t34 t35 t36 t37 ((Option.some.inj hp334).trans he43) _ _ hS338)
  have hS339:=hS11.pick1
  have hS340:=hS339.pick22
  have hS341:=hS340.pick22
  have hS342:=hS341.pick22
  have hS343:=hS342.pick22
  have hS344:=hS343.pick22
  have hS345:=hS344.pick22
  have hS346:=hS345.pick22
  have hS347:=hS346.pick22
  have hS348:=hS347.pick22
  have hS349:=hS348.pick22
  have hS350:=hS349.pick22
  have hS351:=hS350.pick22
  have hS352:=hS351.pick22
  have hS353:=hS352.pick22
  have hS354:=hS353.pick22
  have hS355:=hS354.pick22
  have hS356:=hS355.pick22
  have hS357:=hS356.pick22
  have hS358:=hS357.pick22
  have hS359:=hS358.pick22
  have hS360:=hS359.pick22
  exact rF _ (L47 ([y44] : List ByteArray) 0 a0c0v2vc0v6v a0c0v2vc0v11vv_3 a0c0v2vc0v11vv_0m a0c0v2vc0v11vv_2m a0c0v2vc0v14v (mput ([] : List (ByteArray × explore_visit)) y44 (⟨0,(⟨#[]⟩ : ByteArray),(⟨0,0,0⟩ : api_Pick)⟩ : explore_visit)) _ hv13 rfl _ (some ⟨b9,0,none⟩) 1 _ hS360)

def explore_States_1.f (a0c0v4v a0c0v5v : Int) (a0c0v6v : Bool) (a0c0v9v_0 : List ByteArray) (a0c0v9v_1 : List Int) (a0c0v9v_2 : List (List weirref14_Move)) (a0c0v9v_3 : List Bool) (a0c0v9v_4 : List api_Final) (a0c0v9v_5 : List Int) (a0c0v9v_6 : List api_Pick) (a0c0v9v_7 : Bool) (a0c0v9v_8m a0c0v11vv_0m : List (ByteArray × Int)) (a0c0v11vv_1m a0c0v11vv_2m : List (ByteArray × Int)) (a0c0v11vv_3 : Bool) (a0c0v12vc0v_0 : ByteArray) (a0c0v12vc0v_1c1v : weirlaw14_Net) (a0c0v13v a0c0v14v : Int) : Option (Int × Bool × Bool × (List (ByteArray × Int)) × (List (ByteArray × Int)) × Int) :=
  (explore_walk.f a0c0v12vc0v_0 a0c0v11vv_0m a0c0v11vv_1m a0c0v11vv_2m a0c0v11vv_3 a0c0v12vc0v_1c1v >>= (fun t5 => (explore_walk_1.f a0c0v4v a0c0v5v a0c0v6v a0c0v9v_0 a0c0v9v_1 a0c0v9v_2 a0c0v9v_3 a0c0v9v_4 a0c0v9v_5 a0c0v9v_6 a0c0v9v_7 a0c0v9v_8m a0c0v11vv_0m a0c0v11vv_1m a0c0v11vv_2m a0c0v11vv_3 a0c0v12vc0v_0 a0c0v12vc0v_1c1v a0c0v13v a0c0v14v t5 >>= (fun (t31,t32,t33,t34,t35,t36,t37) => (if decide (t31 = 0) = true then some ((t32,t33,t34,t35,t36,t37)) else (if t31 = 1 then some ((t32,t33,t34,t35,t36,t37)) else none))))))
theorem explore_States_1.ok {a0c0v4v a0c0v5v : Int} {a0c0v6v : Bool} {a0c0v9v_0 : List ByteArray} {a0c0v9v_1 : List Int} {a0c0v9v_2 : List (List weirref14_Move)} {a0c0v9v_3 : List Bool} {a0c0v9v_4 : List api_Final} {a0c0v9v_5 : List Int} {a0c0v9v_6 : List api_Pick} {a0c0v9v_7 : Bool} {a0c0v9v_8m a0c0v11vv_0m : List (ByteArray × Int)} {a0c0v11vv_1m a0c0v11vv_2m : List (ByteArray × Int)} {a0c0v11vv_3 : Bool} {a0c0v12vc0v_0 : ByteArray} {a0c0v12vc0v_1c1v : weirlaw14_Net} {a0c0v13v a0c0v14v : Int} {La0c0 Da0c0 : Nat} {la0c0 : List Value} {ba0c0v4 ba0c0v5 : Nat} {ba0c0v6 ba0c0v9 : Nat} {Aa0c0v9v_0 : Option Addr} {ca0c0v9v_0 : Nat} {Aa0c0v9v_1 : Option Addr} {ca0c0v9v_1 : Nat} {Aa0c0v9v_2 : Option Addr} {ca0c0v9v_2 : Nat} {Aa0c0v9v_3 : Option Addr} {ca0c0v9v_3 : Nat} {Aa0c0v9v_4 : Option Addr} {ca0c0v9v_4 : Nat} {Aa0c0v9v_5 : Option Addr} {ca0c0v9v_5 : Nat} {Aa0c0v9v_6 : Option Addr} {ca0c0v9v_6 ba0c0v9v_8 : Nat} {ba0c0v11 ba0c0v11v : Nat} {ba0c0v11vv_0 ba0c0v11vv_1 : Nat} {ba0c0v11vv_2 ba0c0v12 : Nat} {ba0c0v12vc0 ba0c0v12vc0v_1c0 ba0c0v12vc0v_1c1 : Nat} {Aa0c0v12vc0v_1c1v_0 : Option Addr} {ca0c0v12vc0v_1c1v_0 : Nat} {Aa0c0v12vc0v_1c1v_1 : Option Addr} {ca0c0v12vc0v_1c1v_1 : Nat} {Aa0c0v12vc0v_1c1v_2 : Option Addr} {ca0c0v12vc0v_1c1v_2 ba0c0v13 ba0c0v14 : Nat} {q0 : Int} {q1 q2 : Bool} {q3 q4 : List (ByteArray × Int)} {q5 : Int} (hp0 : explore_States_1.f a0c0v4v a0c0v5v a0c0v6v a0c0v9v_0 a0c0v9v_1 a0c0v9v_2 a0c0v9v_3 a0c0v9v_4 a0c0v9v_5 a0c0v9v_6 a0c0v9v_7 a0c0v9v_8m a0c0v11vv_0m a0c0v11vv_1m a0c0v11vv_2m a0c0v11vv_3 a0c0v12vc0v_0 a0c0v12vc0v_1c1v a0c0v13v a0c0v14v = some (q0,q1,q2,q3,q4,q5)) (hS0 : St w0 Z (xlp La0c0 3 (fill (mk 165 [(4,.pointer (some ⟨ba0c0v4,0,none⟩)),(5,.pointer (some ⟨ba0c0v5,0,none⟩)),(6,.pointer (some ⟨ba0c0v6,0,none⟩)),(9,.pointer (some ⟨ba0c0v9,0,none⟩)),(11,.pointer (some ⟨ba0c0v11,0,none⟩)),(12,.pointer (some ⟨ba0c0v12,0,none⟩)),(13,.pointer (some ⟨ba0c0v13,0,none⟩)),(14,.pointer (some ⟨ba0c0v14,0,none⟩))]) la0c0) #[44,45] p3_7 p3_8 Da0c0 [p3_9,p3_10] 0::xblk ba0c0v4 3 ([.int .i64 a0c0v4v])::xblk ba0c0v5 3 ([.int .i64 a0c0v5v])::xblk ba0c0v6 4 ([.bool a0c0v6v])::xblk ba0c0v9 43 ([.slice Aa0c0v9v_0 a0c0v9v_0.length ca0c0v9v_0,.slice Aa0c0v9v_1 a0c0v9v_1.length ca0c0v9v_1,.slice Aa0c0v9v_2 a0c0v9v_2.length ca0c0v9v_2,.slice Aa0c0v9v_3 a0c0v9v_3.length ca0c0v9v_3,.slice Aa0c0v9v_4 a0c0v9v_4.length ca0c0v9v_4,.slice Aa0c0v9v_5 a0c0v9v_5.length ca0c0v9v_5,.slice Aa0c0v9v_6 a0c0v9v_6.length ca0c0v9v_6,.bool a0c0v9v_7,.map (some ba0c0v9v_8)])::xmap ba0c0v9v_8 (a0c0v9v_8m.map (kv Value.string (Value.int .i64)))::xblk ba0c0v11 33 ([.pointer (some ⟨ba0c0v11v,0,none⟩)])::xblk ba0c0v11v 49 ([.map (some ba0c0v11vv_0),.map (some ba0c0v11vv_1),.map (some ba0c0v11vv_2),.bool a0c0v11vv_3])::xmap ba0c0v11vv_0 (a0c0v11vv_0m.map (kv Value.string (Value.int .i64)))::xmap ba0c0v11vv_1 (a0c0v11vv_1m.map (kv Value.string (Value.int .i64)))::xmap ba0c0v11vv_2 (a0c0v11vv_2m.map (kv Value.string (Value.int .i64)))::xblk ba0c0v12 46 ([.func (.func 34) #[] #[.pointer (some ⟨ba0c0v12vc0,0,none⟩)]])::xblk ba0c0v12vc0 32 ([.string a0c0v12vc0v_0,.func (.func 28) #[] #[.pointer (some ⟨ba0c0v12vc0v_1c0,0,none⟩),.pointer (some ⟨ba0c0v12vc0v_1c1,0,none⟩)],.func (.func 31) #[] #[.pointer (some ⟨ba0c0v12vc0v_1c1,0,none⟩),.pointer (some ⟨ba0c0v12vc0v_1c0,0,none⟩)],.func (.func 32) #[] #[.pointer (some ⟨ba0c0v12vc0v_1c0,0,none⟩),.pointer (some ⟨ba0c0v12vc0v_1c1,0,none⟩)]])::xblk ba0c0v12vc0v_1c0 33 ([.pointer (some ⟨ba0c0v11v,0,none⟩)])::xblk ba0c0v12vc0v_1c1 26 ([.slice Aa0c0v12vc0v_1c1v_0 a0c0v12vc0v_1c1v.Next.length ca0c0v12vc0v_1c1v_0,.slice Aa0c0v12vc0v_1c1v_1 a0c0v12vc0v_1c1v.End.length ca0c0v12vc0v_1c1v_1,.slice Aa0c0v12vc0v_1c1v_2 a0c0v12vc0v_1c1v.Value.length ca0c0v12vc0v_1c1v_2,.int .i64 a0c0v12vc0v_1c1v.Start])::xblk ba0c0v13 3 ([.int .i64 a0c0v13v])::xblk ba0c0v14 3 ([.int .i64 a0c0v14v])::fs) w) (ha0c0v9v_0 : SlZ (flat encS) 1 Z Aa0c0v9v_0 ca0c0v9v_0 a0c0v9v_0) (ha0c0v9v_1 : SlZ (flat (encI .i64)) 1 Z Aa0c0v9v_1 ca0c0v9v_1 a0c0v9v_1) (ha0c0v9v_2 : SlZ (repL (flat enc_weirref14_Move) 4) 1 Z Aa0c0v9v_2 ca0c0v9v_2 a0c0v9v_2) (ha0c0v9v_3 : SlZ (flat encB) 1 Z Aa0c0v9v_3 ca0c0v9v_3 a0c0v9v_3) (ha0c0v9v_4 : SlZ (flat enc_api_Final) 49 Z Aa0c0v9v_4 ca0c0v9v_4 a0c0v9v_4) (ha0c0v9v_5 : SlZ (flat (encI .i64)) 1 Z Aa0c0v9v_5 ca0c0v9v_5 a0c0v9v_5) (ha0c0v9v_6 : SlZ (flat enc_api_Pick) 3 Z Aa0c0v9v_6 ca0c0v9v_6 a0c0v9v_6) (ha0c0v12vc0v_1c1v_0 : SlZ (repL (flat (encI .i64)) 1) 1 Z Aa0c0v12vc0v_1c1v_0 ca0c0v12vc0v_1c1v_0 a0c0v12vc0v_1c1v.Next) (ha0c0v12vc0v_1c1v_1 : SlZ (flat encB) 1 Z Aa0c0v12vc0v_1c1v_1 ca0c0v12vc0v_1c1v_1 a0c0v12vc0v_1c1v.End) (ha0c0v12vc0v_1c1v_2 : SlZ (flat (encI .i64)) 1 Z Aa0c0v12vc0v_1c1v_2 ca0c0v12vc0v_1c1v_2 a0c0v12vc0v_1c1v.Value) :
    Calls Try.prog 34 #[.func (.yield La0c0) #[] #[],.pointer (some ⟨ba0c0v12vc0,0,none⟩)] w (fun e w' => e = .returned (.tuple #[]) ∧ St w0 Z (xlp La0c0 3 (fill (mk 165 [(4,.pointer (some ⟨ba0c0v4,0,none⟩)),(5,.pointer (some ⟨ba0c0v5,0,none⟩)),(6,.pointer (some ⟨ba0c0v6,0,none⟩)),(9,.pointer (some ⟨ba0c0v9,0,none⟩)),(11,.pointer (some ⟨ba0c0v11,0,none⟩)),(12,.pointer (some ⟨ba0c0v12,0,none⟩)),(13,.pointer (some ⟨ba0c0v13,0,none⟩)),(14,.pointer (some ⟨ba0c0v14,0,none⟩))]) la0c0) #[44,45] p3_7 p3_8 Da0c0 [p3_9,p3_10] q0::xblk ba0c0v4 3 ([.int .i64 a0c0v4v])::xblk ba0c0v5 3 ([.int .i64 a0c0v5v])::xblk ba0c0v6 4 ([.bool q1])::xblk ba0c0v9 43 ([.slice Aa0c0v9v_0 a0c0v9v_0.length ca0c0v9v_0,.slice Aa0c0v9v_1 a0c0v9v_1.length ca0c0v9v_1,.slice Aa0c0v9v_2 a0c0v9v_2.length ca0c0v9v_2,.slice Aa0c0v9v_3 a0c0v9v_3.length ca0c0v9v_3,.slice Aa0c0v9v_4 a0c0v9v_4.length ca0c0v9v_4,.slice Aa0c0v9v_5 a0c0v9v_5.length ca0c0v9v_5,.slice Aa0c0v9v_6 a0c0v9v_6.length ca0c0v9v_6,.bool a0c0v9v_7,.map (some ba0c0v9v_8)])::xmap ba0c0v9v_8 (a0c0v9v_8m.map (kv Value.string (Value.int .i64)))::xblk ba0c0v11 33 ([.pointer (some ⟨ba0c0v11v,0,none⟩)])::xblk ba0c0v11v 49 ([.map (some ba0c0v11vv_0),.map (some ba0c0v11vv_1),.map (some ba0c0v11vv_2),.bool q2])::xmap ba0c0v11vv_0 (q3.map (kv Value.string (Value.int .i64)))::xmap ba0c0v11vv_1 (a0c0v11vv_1m.map (kv Value.string (Value.int .i64)))::xmap ba0c0v11vv_2 (q4.map (kv Value.string (Value.int .i64)))::xblk ba0c0v12 46 ([.func (.func 34) #[] #[.pointer (some ⟨ba0c0v12vc0,0,none⟩)]])::xblk ba0c0v12vc0 32 ([.string a0c0v12vc0v_0,.func (.func 28) #[] #[.pointer (some ⟨ba0c0v12vc0v_1c0,0,none⟩),.pointer (some ⟨ba0c0v12vc0v_1c1,0,none⟩)],.func (.func 31) #[] #[.pointer (some ⟨ba0c0v12vc0v_1c1,0,none⟩),.pointer (some ⟨ba0c0v12vc0v_1c0,0,none⟩)],.func (.func 32) #[] #[.pointer (some ⟨ba0c0v12vc0v_1c0,0,none⟩),.pointer (some ⟨ba0c0v12vc0v_1c1,0,none⟩)]])::xblk ba0c0v12vc0v_1c0 33 ([.pointer (some ⟨ba0c0v11v,0,none⟩)])::xblk ba0c0v12vc0v_1c1 26 ([.slice Aa0c0v12vc0v_1c1v_0 a0c0v12vc0v_1c1v.Next.length ca0c0v12vc0v_1c1v_0,.slice Aa0c0v12vc0v_1c1v_1 a0c0v12vc0v_1c1v.End.length ca0c0v12vc0v_1c1v_1,.slice Aa0c0v12vc0v_1c1v_2 a0c0v12vc0v_1c1v.Value.length ca0c0v12vc0v_1c1v_2,.int .i64 a0c0v12vc0v_1c1v.Start])::xblk ba0c0v13 3 ([.int .i64 a0c0v13v])::xblk ba0c0v14 3 ([.int .i64 q5])::fs) w'):=by
  refine calls_abs ?_; intro R hR
  unfold explore_States_1.f at hp0
  refine calls_of_runs (fn:=Try.f34) (c:=cd34 []) Try.func34 (by kernel_rfl) (al:=[.func (.yield La0c0) #[] #[],.pointer (some ⟨ba0c0v12vc0,0,none⟩)]) rfl (n:=15) rfl ?_
  refine sR 2 [.inRegion (opsOf (cd34 [0])) [0],.code (cd34 [1])] ?_
  refine r_box (c:=(cd34 [0])) (i:=0) (d:=(some 2)) (ty:=0) (x:=(.tmp 0)) (v:=.func (.yield La0c0) #[] #[]) (t:=96) (cs:=[.func (.yield La0c0) #[] #[]]) hS0 (by kernel_rfl) (by kernel_rfl) (by kernel_rfl) (by kernel_rfl) ?_
  intro b1 w2 hS3
  refine sR 3 [.inRegion (opsOf (cd34 [1,0])) [0,1],.code (cd34 [1,1])] ?_
  refine rLa 32 (.tmp 1) (hS3.blk 13 rfl) ?_
  obtain ⟨t5,hr8,hp9⟩:=bind_some' hp0
  have hS15:=hS3.pick15
  have hS16:=hS15.pick12
  have hS17:=hS16.pick12
  have hS18:=hS17.pick12
  have hS19:=hS18.pick12
  have hS20:=hS19.pick15
  refine rC (explore_walk.ok hr8 hS20 ha0c0v12vc0v_1c1v_0 ha0c0v12vc0v_1c1v_1 ha0c0v12vc0v_1c1v_2) ?_
  rintro _ w21 ⟨Q6,Q7,rfl,hS22⟩
  refine ⟨_,rfl,?_⟩
  refine sR 2 [.code (cd34 [1,1,0]),.inBlock 0] ?_
  refine Runs.fillG (m:=(mk 17 [(2,.pointer (some ⟨b1,0,none⟩)),(6,.func (.func 44) #[] #[.pointer (some ⟨Q6,0,none⟩),.pointer (some ⟨Q7,0,none⟩)])])) (by kernel_rfl) ?_
  intro l23
  refine r_rangeF (c:=(cd34 [1,1,0])) (g:=(.tmp 6)) (ps:=#[7,8]) (am:=p34_0) (bd:=p34_1) (gf:=44) (caps:=#[.pointer (some ⟨Q6,0,none⟩),.pointer (some ⟨Q7,0,none⟩)]) (args:=fun L => #[.func (.yield L) #[] #[],.pointer (some ⟨Q6,0,none⟩),.pointer (some ⟨Q7,0,none⟩)]) [p34_2] hS22 (by kernel_rfl) (by kernel_rfl) (fun _ => (by kernel_rfl)) ?_
  intro D25 L24 w26 hS27
  have hS30 : St w0 Z (xlp L24 34 (fill (mk 17 [(2,.pointer (some ⟨b1,0,none⟩))]) (fill (mk 17 [(2,.pointer (some ⟨b1,0,none⟩)),(6,.func (.func 44) #[] #[.pointer (some ⟨Q6,0,none⟩),.pointer (some ⟨Q7,0,none⟩)])]) l23)) #[7,8] p34_0 p34_1 D25 [p34_2] 0::xdef D25::xblk Q6 32 ([.string t5,.func (.func 28) #[] #[.pointer (some ⟨ba0c0v12vc0v_1c0,0,none⟩),.pointer (some ⟨ba0c0v12vc0v_1c1,0,none⟩)],.func (.func 31) #[] #[.pointer (some ⟨ba0c0v12vc0v_1c1,0,none⟩),.pointer (some ⟨ba0c0v12vc0v_1c0,0,none⟩)],.func (.func 32) #[] #[.pointer (some ⟨ba0c0v12vc0v_1c0,0,none⟩),.pointer (some ⟨ba0c0v12vc0v_1c1,0,none⟩)]])::xblk Q7 130 ([.nilFunc])::xblk ba0c0v12vc0v_1c0 33 ([.pointer (some ⟨ba0c0v11v,0,none⟩)])::xblk ba0c0v11v 49 ([.map (some ba0c0v11vv_0),.map (some ba0c0v11vv_1),.map (some ba0c0v11vv_2),.bool a0c0v11vv_3])::xmap ba0c0v11vv_0 (a0c0v11vv_0m.map (kv Value.string (Value.int .i64)))::xmap ba0c0v11vv_1 (a0c0v11vv_1m.map (kv Value.string (Value.int .i64)))::xmap ba0c0v11vv_2 (a0c0v11vv_2m.map (kv Value.string (Value.int .i64)))::xblk ba0c0v12vc0v_1c1 26 ([.slice Aa0c0v12vc0v_1c1v_0 a0c0v12vc0v_1c1v.Next.length ca0c0v12vc0v_1c1v_0,.slice Aa0c0v12vc0v_1c1v_1 a0c0v12vc0v_1c1v.End.length ca0c0v12vc0v_1c1v_1,.slice Aa0c0v12vc0v_1c1v_2 a0c0v12vc0v_1c1v.Value.length ca0c0v12vc0v_1c1v_2,.int .i64 a0c0v12vc0v_1c1v.Start])::xblk b1 96 ([.func (.yield La0c0) #[] #[]])::xlp La0c0 3 (fill (mk 165 [(4,.pointer (some ⟨ba0c0v4,0,none⟩)),(5,.pointer (some ⟨ba0c0v5,0,none⟩)),(6,.pointer (some ⟨ba0c0v6,0,none⟩)),(9,.pointer (some ⟨ba0c0v9,0,none⟩)),(11,.pointer (some ⟨ba0c0v11,0,none⟩)),(12,.pointer (some ⟨ba0c0v12,0,none⟩)),(13,.pointer (some ⟨ba0c0v13,0,none⟩)),(14,.pointer (some ⟨ba0c0v14,0,none⟩))]) la0c0) #[44,45] p3_7 p3_8 Da0c0 [p3_9,p3_10] 0::xblk ba0c0v4 3 ([.int .i64 a0c0v4v])::xblk ba0c0v5 3 ([.int .i64 a0c0v5v])::xblk ba0c0v6 4 ([.bool a0c0v6v])::xblk ba0c0v9 43 ([.slice Aa0c0v9v_0 a0c0v9v_0.length ca0c0v9v_0,.slice Aa0c0v9v_1 a0c0v9v_1.length ca0c0v9v_1,.slice Aa0c0v9v_2 a0c0v9v_2.length ca0c0v9v_2,.slice Aa0c0v9v_3 a0c0v9v_3.length ca0c0v9v_3,.slice Aa0c0v9v_4 a0c0v9v_4.length ca0c0v9v_4,.slice Aa0c0v9v_5 a0c0v9v_5.length ca0c0v9v_5,.slice Aa0c0v9v_6 a0c0v9v_6.length ca0c0v9v_6,.bool a0c0v9v_7,.map (some ba0c0v9v_8)])::xmap ba0c0v9v_8 (a0c0v9v_8m.map (kv Value.string (Value.int .i64)))::xblk ba0c0v11 33 ([.pointer (some ⟨ba0c0v11v,0,none⟩)])::xblk ba0c0v12 46 ([.func (.func 34) #[] #[.pointer (some ⟨ba0c0v12vc0,0,none⟩)]])::xblk ba0c0v12vc0 32 ([.string a0c0v12vc0v_0,.func (.func 28) #[] #[.pointer (some ⟨ba0c0v12vc0v_1c0,0,none⟩),.pointer (some ⟨ba0c0v12vc0v_1c1,0,none⟩)],.func (.func 31) #[] #[.pointer (some ⟨ba0c0v12vc0v_1c1,0,none⟩),.pointer (some ⟨ba0c0v12vc0v_1c0,0,none⟩)],.func (.func 32) #[] #[.pointer (some ⟨ba0c0v12vc0v_1c0,0,none⟩),.pointer (some ⟨ba0c0v12vc0v_1c1,0,none⟩)]])::xblk ba0c0v13 3 ([.int .i64 a0c0v13v])::xblk ba0c0v14 3 ([.int .i64 a0c0v14v])::fs) w26:=hS27
  obtain ⟨⟨t31,t32,t33,t34,t35,t36,t37⟩,hr38,hp39⟩:=bind_some' hp9
  try dsimp only at hp39
  have hS50:=hS30.pick3
  have hS51:=hS50.pick3
  have hS52:=hS51.pick21
  have hS53:=hS52.pick21
  have hS54:=hS53.pick11
  have hS55:=hS54.pick7
  have hS56:=hS55.pick21
  have hS57:=hS56.pick21
  have hS58:=hS57.pick13
  have hS59:=hS58.pick13
  have hS60:=hS59.pick13
  have hS61:=hS60.pick13
  have hS62:=hS61.pick21
  have hS63:=hS62.pick21
  have hS64:=hS63.pick21
  have hS65:=hS64.pick21
  have hS66:=hS65.pick21
  have hS67:=hS66.pick21
  have hS68:=hS67.pick21
  have hS69:=hS68.pick21
  have hS70:=hS69.pick20
  refine ⟨_,(explore_walk_1.ok hr38 hS70 ha0c0v9v_0 ha0c0v9v_1 ha0c0v9v_2 ha0c0v9v_3 ha0c0v9v_4 ha0c0v9v_5 ha0c0v9v_6 ha0c0v12vc0v_1c1v_0 ha0c0v12vc0v_1c1v_1 ha0c0v12vc0v_1c1v_2),?_⟩
  rintro _ w71 ⟨rfl,hS72⟩
  refine ⟨⟨_,rfl⟩,?_⟩
  rcases Bool.eq_false_or_eq_true (decide (t31 = 0)) with h73 | h74
  ·have hp75:=ite_t hp39 h73
   have hS76 : St w0 Z (xlp L24 34 (fill (mk 17 [(2,.pointer (some ⟨b1,0,none⟩))]) (fill (mk 17 [(2,.pointer (some ⟨b1,0,none⟩)),(6,.func (.func 44) #[] #[.pointer (some ⟨Q6,0,none⟩),.pointer (some ⟨Q7,0,none⟩)])]) l23)) #[7,8] p34_0 p34_1 D25 [p34_2] 0::xblk b1 96 ([.func (.yield La0c0) #[] #[]])::xlp La0c0 3 (fill (mk 165 [(4,.pointer (some ⟨ba0c0v4,0,none⟩)),(5,.pointer (some ⟨ba0c0v5,0,none⟩)),(6,.pointer (some ⟨ba0c0v6,0,none⟩)),(9,.pointer (some ⟨ba0c0v9,0,none⟩)),(11,.pointer (some ⟨ba0c0v11,0,none⟩)),(12,.pointer (some ⟨ba0c0v12,0,none⟩)),(13,.pointer (some ⟨ba0c0v13,0,none⟩)),(14,.pointer (some ⟨ba0c0v14,0,none⟩))]) la0c0) #[44,45] p3_7 p3_8 Da0c0 [p3_9,p3_10] t32::xblk ba0c0v4 3 ([.int .i64 a0c0v4v])::xblk ba0c0v5 3 ([.int .i64 a0c0v5v])::xblk ba0c0v6 4 ([.bool t33])::xblk ba0c0v9 43 ([.slice Aa0c0v9v_0 a0c0v9v_0.length ca0c0v9v_0,.slice Aa0c0v9v_1 a0c0v9v_1.length ca0c0v9v_1,.slice Aa0c0v9v_2 a0c0v9v_2.length ca0c0v9v_2,.slice Aa0c0v9v_3 a0c0v9v_3.length ca0c0v9v_3,.slice Aa0c0v9v_4 a0c0v9v_4.length ca0c0v9v_4,.slice Aa0c0v9v_5 a0c0v9v_5.length ca0c0v9v_5,.slice Aa0c0v9v_6 a0c0v9v_6.length ca0c0v9v_6,.bool a0c0v9v_7,.map (some ba0c0v9v_8)])::xmap ba0c0v9v_8 (a0c0v9v_8m.map (kv Value.string (Value.int .i64)))::xblk ba0c0v11 33 ([.pointer (some ⟨ba0c0v11v,0,none⟩)])::xblk ba0c0v11v 49 ([.map (some ba0c0v11vv_0),.map (some ba0c0v11vv_1),.map (some ba0c0v11vv_2),.bool t34])::xmap ba0c0v11vv_0 (t35.map (kv Value.string (Value.int .i64)))::xmap ba0c0v11vv_1 (a0c0v11vv_1m.map (kv Value.string (Value.int .i64)))::xmap ba0c0v11vv_2 (t36.map (kv Value.string (Value.int .i64)))::xblk ba0c0v12 46 ([.func (.func 34) #[] #[.pointer (some ⟨ba0c0v12vc0,0,none⟩)]])::xblk ba0c0v12vc0 32 ([.string a0c0v12vc0v_0,.func (.func 28) #[] #[.pointer (some ⟨ba0c0v12vc0v_1c0,0,none⟩),.pointer (some ⟨ba0c0v12vc0v_1c1,0,none⟩)],.func (.func 31) #[] #[.pointer (some ⟨ba0c0v12vc0v_1c1,0,none⟩),.pointer (some ⟨ba0c0v12vc0v_1c0,0,none⟩)],.func (.func 32) #[] #[.pointer (some ⟨ba0c0v12vc0v_1c0,0,none⟩),.pointer (some ⟨ba0c0v12vc0v_1c1,0,none⟩)]])::xblk ba0c0v12vc0v_1c0 33 ([.pointer (some ⟨ba0c0v11v,0,none⟩)])::xblk ba0c0v12vc0v_1c1 26 ([.slice Aa0c0v12vc0v_1c1v_0 a0c0v12vc0v_1c1v.Next.length ca0c0v12vc0v_1c1v_0,.slice Aa0c0v12vc0v_1c1v_1 a0c0v12vc0v_1c1v.End.length ca0c0v12vc0v_1c1v_1,.slice Aa0c0v12vc0v_1c1v_2 a0c0v12vc0v_1c1v.Value.length ca0c0v12vc0v_1c1v_2,.int .i64 a0c0v12vc0v_1c1v.Start])::xblk ba0c0v13 3 ([.int .i64 a0c0v13v])::xblk ba0c0v14 3 ([.int .i64 t37])::xblk Q6 32 ([.string t5,.func (.func 28) #[] #[.pointer (some ⟨ba0c0v12vc0v_1c0,0,none⟩),.pointer (some ⟨ba0c0v12vc0v_1c1,0,none⟩)],.func (.func 31) #[] #[.pointer (some ⟨ba0c0v12vc0v_1c1,0,none⟩),.pointer (some ⟨ba0c0v12vc0v_1c0,0,none⟩)],.func (.func 32) #[] #[.pointer (some ⟨ba0c0v12vc0v_1c0,0,none⟩),.pointer (some ⟨ba0c0v12vc0v_1c1,0,none⟩)]])::xblk Q7 130 ([.nilFunc])::xdef D25::fs) w71:=by have h:=hS72; rw [of_decide_eq_true h73] at h; exact h
   refine r_endF0 hS76 ?_
   intro w77 hS78
   refine sR 1 [] ?_
   refine runsC_end (fn:=Try.f34) Try.func34 ?_
   have hS79:=hS78.pick20
   refine leavesC_cons hS79 ?_
   intro w80 hS81
   have hS82:=hS81.drop
   have hS83:=hS82.pick17
   have hS84:=hS83.drop
   have hS85:=hS84.pick17
   have hS86:=hS85.drop
   refine leavesC_nil (v:=.tuple #[]) (by kernel_rfl) ?_
   cases Option.some.inj hp75
   exact hR _ _ ⟨rfl,hS86⟩
  have hp88:=ite_f hp39 h74
  obtain ⟨g89,hp90⟩:=ite_some hp88
  have hS91 : St w0 Z (xlp L24 34 (fill (mk 17 [(2,.pointer (some ⟨b1,0,none⟩))]) (fill (mk 17 [(2,.pointer (some ⟨b1,0,none⟩)),(6,.func (.func 44) #[] #[.pointer (some ⟨Q6,0,none⟩),.pointer (some ⟨Q7,0,none⟩)])]) l23)) #[7,8] p34_0 p34_1 D25 [p34_2] 1::xblk b1 96 ([.func (.yield La0c0) #[] #[]])::xlp La0c0 3 (fill (mk 165 [(4,.pointer (some ⟨ba0c0v4,0,none⟩)),(5,.pointer (some ⟨ba0c0v5,0,none⟩)),(6,.pointer (some ⟨ba0c0v6,0,none⟩)),(9,.pointer (some ⟨ba0c0v9,0,none⟩)),(11,.pointer (some ⟨ba0c0v11,0,none⟩)),(12,.pointer (some ⟨ba0c0v12,0,none⟩)),(13,.pointer (some ⟨ba0c0v13,0,none⟩)),(14,.pointer (some ⟨ba0c0v14,0,none⟩))]) la0c0) #[44,45] p3_7 p3_8 Da0c0 [p3_9,p3_10] t32::xblk ba0c0v4 3 ([.int .i64 a0c0v4v])::xblk ba0c0v5 3 ([.int .i64 a0c0v5v])::xblk ba0c0v6 4 ([.bool t33])::xblk ba0c0v9 43 ([.slice Aa0c0v9v_0 a0c0v9v_0.length ca0c0v9v_0,.slice Aa0c0v9v_1 a0c0v9v_1.length ca0c0v9v_1,.slice Aa0c0v9v_2 a0c0v9v_2.length ca0c0v9v_2,.slice Aa0c0v9v_3 a0c0v9v_3.length ca0c0v9v_3,.slice Aa0c0v9v_4 a0c0v9v_4.length ca0c0v9v_4,.slice Aa0c0v9v_5 a0c0v9v_5.length ca0c0v9v_5,.slice Aa0c0v9v_6 a0c0v9v_6.length ca0c0v9v_6,.bool a0c0v9v_7,.map (some ba0c0v9v_8)])::xmap ba0c0v9v_8 (a0c0v9v_8m.map (kv Value.string (Value.int .i64)))::xblk ba0c0v11 33 ([.pointer (some ⟨ba0c0v11v,0,none⟩)])::xblk ba0c0v11v 49 ([.map (some ba0c0v11vv_0),.map (some ba0c0v11vv_1),.map (some ba0c0v11vv_2),.bool t34])::xmap ba0c0v11vv_0 (t35.map (kv Value.string (Value.int .i64)))::xmap ba0c0v11vv_1 (a0c0v11vv_1m.map (kv Value.string (Value.int .i64)))::xmap ba0c0v11vv_2 (t36.map (kv Value.string (Value.int .i64)))::xblk ba0c0v12 46 ([.func (.func 34) #[] #[.pointer (some ⟨ba0c0v12vc0,0,none⟩)]])::xblk ba0c0v12vc0 32 ([.string a0c0v12vc0v_0,.func (.func 28) #[] #[.pointer (some ⟨ba0c0v12vc0v_1c0,0,none⟩),.pointer (some ⟨ba0c0v12vc0v_1c1,0,none⟩)],.func (.func 31) #[] #[.pointer (some ⟨ba0c0v12vc0v_1c1,0,none⟩),.pointer (some ⟨ba0c0v12vc0v_1c0,0,none⟩)],.func (.func 32) #[] #[.pointer (some ⟨ba0c0v12vc0v_1c0,0,none⟩),.pointer (some ⟨ba0c0v12vc0v_1c1,0,none⟩)]])::xblk ba0c0v12vc0v_1c0 33 ([.pointer (some ⟨ba0c0v11v,0,none⟩)])::xblk ba0c0v12vc0v_1c1 26 ([.slice Aa0c0v12vc0v_1c1v_0 a0c0v12vc0v_1c1v.Next.length ca0c0v12vc0v_1c1v_0,.slice Aa0c0v12vc0v_1c1v_1 a0c0v12vc0v_1c1v.End.length ca0c0v12vc0v_1c1v_1,.slice Aa0c0v12vc0v_1c1v_2 a0c0v12vc0v_1c1v.Value.length ca0c0v12vc0v_1c1v_2,.int .i64 a0c0v12vc0v_1c1v.Start])::xblk ba0c0v13 3 ([.int .i64 a0c0v13v])::xblk ba0c0v14 3 ([.int .i64 t37])::xblk Q6 32 ([.string t5,.func (.func 28) #[] #[.pointer (some ⟨ba0c0v12vc0v_1c0,0,none⟩),.pointer (some ⟨ba0c0v12vc0v_1c1,0,none⟩)],.func (.func 31) #[] #[.pointer (some ⟨ba0c0v12vc0v_1c1,0,none⟩),.pointer (some ⟨ba0c0v12vc0v_1c0,0,none⟩)],.func (.func 32) #[] #[.pointer (some ⟨ba0c0v12vc0v_1c0,0,none⟩),.pointer (some ⟨ba0c0v12vc0v_1c1,0,none⟩)]])::xblk Q7 130 ([.nilFunc])::xdef D25::fs) w71:=by have h:=hS72; rw [g89] at h; exact h
  refine r_endFj 0 (cj:=p34_2) (by kernel_rfl) hS91 ?_
  intro w92 hS93
  refine runsC_ret (fn:=Try.f34) Try.func34 ?_
  have hS94:=hS93.pick20
  refine leavesC_cons hS94 ?_
  intro w95 hS96
  have hS97:=hS96.drop
  have hS98:=hS97.pick17
  have hS99:=hS98.drop
  have hS100:=hS99.pick17
  have hS101:=hS100.drop
  refine leavesC_nil (v:=.tuple #[]) (by kernel_rfl) ?_
  cases Option.some.inj hp90
  exact hR _ _ ⟨rfl,hS101⟩

noncomputable def cd12 (p : List Nat) : Code := sub (bodyOf Try.f12) p
abbrev p12_14:=cd12 [1,1,1,1,1,0,1,0,0]
abbrev p12_16:=cd12 [1,1,1,1,1,0,1,0,0,0]
abbrev p12_20:=cd12 [1,1,1,1,1,0,1,0,0,1,1,0,1,0]
abbrev p12_21:=cd12 [1,1,1,1,1,0,1,0,0,1,1,0,1,1]
abbrev p12_22:=cd12 [1,1,1,1,1,0,1,0,0,1,1,0,1,1,0,1]
abbrev p12_23:=cd12 [1,1,1,1,0,1,0,0,0]
abbrev p12_27:=cd12 [1,1,1,1,0,1,0,0,1,1,0,1,0]
abbrev p12_28:=cd12 [1,1,1,1,0,1,0,0,1,1,0,1,1]
abbrev p12_29:=cd12 [1,1,1,1,0,1,0,0,1,1,0,1,1,0,1]
abbrev p12_33:=cd12 [1,1,1,0,1,0,0,1,0,0]
abbrev td93:List Item:=[.code (cd12 [1,1,1,1])]
abbrev td94:List Item:=.inBlock 0::td93
abbrev td95:List Item:=.inLoop (cd12 [1,1,1,0,1,0,0])::td94
abbrev td96:List Item:=.code (cd12 [1,1,1,0,1,0,0])::td95
abbrev td97:List Item:=[.code (cd12 [1,1,1,1,1])]
abbrev td98:List Item:=.inBlock 2::td97
abbrev td99:List Item:=.inLoop (cd12 [1,1,1,1,0,1,0,0])::td98
abbrev td100:List Item:=.code (cd12 [1,1,1,1,0,1,0,0])::td99
abbrev td101:List Item:=[.code (cd12 [1,1,1,1,1,1])]
abbrev td102:List Item:=.inBlock 4::td101
abbrev td103:List Item:=.inLoop p12_14::td102
abbrev td104:List Item:=.code p12_14::td103
abbrev td105:List Item:=.inBlock 5::td103
abbrev td106:List Item:=.inBlock 3::td99
def weirlaw14_Book__within.l2 (t10 t43 : List (ByteArray × Int)) : Option (Sum Unit (Bool × Bool)) :=
  (rngM (fun (t68,t69) => (if (((mget t10 t68).getD (0 : Int)) == 0) = true then some (.inr (.inr ((false,false)))) else some (.inl ()))) (some (.inl ())) t43)
def weirlaw14_Book__within.l1 (t10 t100 : List (ByteArray × Int)) : Option (Sum Unit (Bool × Bool)) :=
  (rngM (fun (t124,t125) => (if (((mget t10 t124).getD (0 : Int)) == 0) = true then some (.inr (.inr ((false,false)))) else some (.inl ()))) (some (.inl ())) t100)
def weirlaw14_Book__within.l0 (a1 : List ByteArray) (t156 : Int) (t157 : List (ByteArray × Int)) : Option (List (ByteArray × Int)) :=
  (if (decide (t156 < (a1.length : Int))) = true then (if 0 ≤ t156 ∧ t156 < (a1.length : Int) then (weirlaw14_Book__within.l0 a1 (IntKind.i64.wrap (t156 + 1)) (mput t157 (gt a1 t156) 1)) else none) else some (t157))
 partial_fixpoint
def weirlaw14_Book__within.f (a0v_0m a0v_1m a0v_2m : List (ByteArray × Int)) (y21 : Bool) (a1 : List ByteArray) : Option (Bool × Bool) :=
  (if y21 = true then some ((false,true)) else (weirlaw14_Book__within.l0 a1 0 ([] : List (ByteArray × Int)) >>= (fun t10 => (weirlaw14_Book__within.l1 t10 a0v_0m >>= (fun | .inl () => (weirlaw14_Book__within.l2 t10 a0v_1m >>= (fun | .inl () => some ((true,false)) | .inr e => some e)) | .inr e => some e)))))
theorem weirlaw14_Book__within.ok {a0v_0m a0v_1m a0v_2m : List (ByteArray × Int)} {y21 : Bool} {a1 : List ByteArray} {ba0 y45 : Nat} {y46 y47 : Nat} {Aa1 : Option Addr} {ca1 : Nat} {q0 q1 : Bool} (hp0 : weirlaw14_Book__within.f a0v_0m a0v_1m a0v_2m y21 a1 = some (q0,q1)) (hS0 : St w0 Z (xblk ba0 49 ([.map (some y45),.map (some y46),.map (some y47),.bool y21])::xmap y45 (a0v_0m.map (kv Value.string (Value.int .i64)))::xmap y46 (a0v_1m.map (kv Value.string (Value.int .i64)))::xmap y47 (a0v_2m.map (kv Value.string (Value.int .i64)))::fs) w) (ha1 : SlZ (flat encS) 1 Z Aa1 ca1 a1) :
    Calls Try.prog 12 #[.pointer (some ⟨ba0,0,none⟩),.slice Aa1 a1.length ca1] w (fun e w' => e = .returned (.bool q0) ∧ St w0 Z (xblk ba0 49 ([.map (some y45),.map (some y46),.map (some y47),.bool q1])::xmap y45 (a0v_0m.map (kv Value.string (Value.int .i64)))::xmap y46 (a0v_1m.map (kv Value.string (Value.int .i64)))::xmap y47 (a0v_2m.map (kv Value.string (Value.int .i64)))::fs) w'):=by
  refine calls_abs ?_; intro R hR
  unfold weirlaw14_Book__within.f at hp0
  refine calls_of_runs (fn:=Try.f12) (c:=cd12 []) Try.func12 (by kernel_rfl) (al:=[.pointer (some ⟨ba0,0,none⟩),.slice Aa1 a1.length ca1]) rfl (n:=49) rfl ?_
  refine sR 10 [.inRegion (opsOf (cd12 [1,0,0])) [3],.code (cd12 [1,0,1]),.code (cd12 [1,1])] ?_
  refine rL1 4 (.tmp 11) 3 (hS0.blk 0 rfl) ?_
  refine sR 1 [.code (cd12 [1,0,1]),.code (cd12 [1,1])] ?_
  cases y21
  ·have hp1:=ite_f hp0 rfl
   refine sR 4 [.inRegion (opsOf (cd12 [1,1,0])) [0,1],.code (cd12 [1,1,1])] ?_
   refine r_makeMap (c:=(cd12 [1,1,0])) (i:=0) (d:=(some 13)) (ty:=41) (t:=41) hS0 (by kernel_rfl) (by kernel_rfl) ?_
   intro b2 w3 hS4
   have hS6 : St w0 Z (xmap b2 (([] : List (ByteArray × Int)).map (kv Value.string (Value.int .i64)))::xblk ba0 49 ([.map (some y45),.map (some y46),.map (some y47),.bool false])::xmap y45 (a0v_0m.map (kv Value.string (Value.int .i64)))::xmap y46 (a0v_1m.map (kv Value.string (Value.int .i64)))::xmap y47 (a0v_2m.map (kv Value.string (Value.int .i64)))::fs) w3:=hS4
   refine sR 9 td96 ?_
   obtain ⟨v7,hv8,hp9⟩:=bind_some' hp1
   have J13 : ∀ (t10 : List (ByteArray × Int)) (he15 : t10 = v7) (l14 : List Value) (w11 : World) (hS12 : St w0 Z (xblk ba0 49 ([.map (some y45),.map (some y46),.map (some y47),.bool false])::xmap y45 (a0v_0m.map (kv Value.string (Value.int .i64)))::xmap y46 (a0v_1m.map (kv Value.string (Value.int .i64)))::xmap y47 (a0v_2m.map (kv Value.string (Value.int .i64)))::xmap b2 (t10.map (kv Value.string (Value.int .i64)))::fs) w11),Runs Try.prog (fx 12) td93 (fill (mk 51 [(0,.pointer (some ⟨ba0,0,none⟩)),(5,.map (some b2))]) l14) w11 R:=by
    intro t10 he15 l14 w11 hS12
    subst he15
    try dsimp only at hp9
    refine sR 6 (.inRegion (opsOf (cd12 [1,1,1,1,0,0])) [3,4]::.code (cd12 [1,1,1,1,0,1])::td97) ?_
    refine rL1 41 (.tmp 27) 0 (hS12.blk 0 rfl) ?_
    have hS16:=hS12.pick1
    refine r_rangeM (c:=(cd12 [1,1,1,1,0,0])) (i:=4) (d:=(some 29)) (ty:=0) (t:=41) (kt:=9) (et:=3) (x:=(.tmp 28)) hS16 (by kernel_rfl) (by kernel_rfl) (by kernel_rfl) (by kernel_rfl) ?_
    intro it17 w18 hS19
    refine sR 3 td100 ?_
    obtain ⟨v20,hv21,hp22⟩:=bind_some' hp9
    have hq25 : ∀ x,Sum.inr x = v20 → x = (q0,q1):=by intro x hx; subst hx; simpa using hp22
    have J26 : ∀ (he28 : Sum.inl () = v20) (l27 : List Value) (w23 : World) (hS24 : St w0 Z (xblk ba0 49 ([.map (some y45),.map (some y46),.map (some y47),.bool false])::xmap y45 (a0v_0m.map (kv Value.string (Value.int .i64)))::xmap y46 (a0v_1m.map (kv Value.string (Value.int .i64)))::xmap y47 (a0v_2m.map (kv Value.string (Value.int .i64)))::xmap b2 (t10.map (kv Value.string (Value.int .i64)))::fs) w23),Runs Try.prog (fx 12) td97 (fill (mk 51 [(0,.pointer (some ⟨ba0,0,none⟩)),(5,.map (some b2))]) l27) w23 R:=by
     intro he28 l27 w23 hS24
     subst he28
     try dsimp only at hp22
     refine sR 6 (.inRegion (opsOf (cd12 [1,1,1,1,1,0,0])) [3,4]::.code (cd12 [1,1,1,1,1,0,1])::td101) ?_
     refine rL1 41 (.tmp 40) 1 (hS24.blk 0 rfl) ?_
     have hS29:=hS24.pick2
     refine r_rangeM (c:=(cd12 [1,1,1,1,1,0,0])) (i:=4) (d:=(some 42)) (ty:=0) (t:=41) (kt:=9) (et:=3) (x:=(.tmp 41)) hS29 (by kernel_rfl) (by kernel_rfl) (by kernel_rfl) (by kernel_rfl) ?_
     intro it30 w31 hS32
     refine sR 3 td104 ?_
     obtain ⟨v33,hv34,hp35⟩:=bind_some' hp22
     have hq38 : ∀ x,Sum.inr x = v33 → x = (q0,q1):=by intro x hx; subst hx; simpa using hp35
     have J39 : ∀ (he41 : Sum.inl () = v33) (l40 : List Value) (w36 : World) (hS37 : St w0 Z (xblk ba0 49 ([.map (some y45),.map (some y46),.map (some y47),.bool false])::xmap y45 (a0v_0m.map (kv Value.string (Value.int .i64)))::xmap y46 (a0v_1m.map (kv Value.string (Value.int .i64)))::xmap y47 (a0v_2m.map (kv Value.string (Value.int .i64)))::fs) w36),Runs Try.prog (fx 12) td101 (fill (mk 51 []) l40) w36 R:=by
      intro he41 l40 w36 hS37
      subst he41
      try dsimp only at hp35
      refine sR 4 [.code (cd12 [1,1,1,1,1,1,1])] ?_
      refine rR (.bool true) Try.func12 ?_
      cases Option.some.inj hp35
      exact hR _ _ ⟨rfl,hS37⟩
     have L51 : ∀ (t43 : List (ByteArray × Int)) (e47 : Sum Unit (Bool × Bool)),weirlaw14_Book__within.l2 t10 t43 = some e47 → e47 = v33 → ∀ (l46 : List Value) (w44 : World) (hS45 : St w0 Z (xmap b2 (t10.map (kv Value.string (Value.int .i64)))::xmr y46 it30 (a0v_1m.map (kv Value.string (Value.int .i64))) (t43.map (kv Value.string (Value.int .i64))) none::xblk ba0 49 ([.map (some y45),.map (some y46),.map (some y47),.bool false])::xmap y45 (a0v_0m.map (kv Value.string (Value.int .i64)))::xmap y47 (a0v_2m.map (kv Value.string (Value.int .i64)))::fs) w44),Runs Try.prog (fx 12) td104 (fill (mk 51 [(5,.map (some b2)),(42,.pointer (some ⟨it30,0,none⟩))]) l46) w44 R:=by
      refine rng_ind ?_
      intro t43 ih50 e47 hb49 he48 l46 w44 hS45
      unfold weirlaw14_Book__within.l2 at hb49
      have hq52 : ∀ x,Sum.inr x = e47 → x = (q0,q1):=fun x hx => hq38 x (hx.trans he48)
      refine sR 2 (.inRegion (opsOf p12_16) [0,1]::.code (cd12 [1,1,1,1,1,0,1,0,0,1])::td103) ?_
      have hS53:=hS45.pick1
      refine r_nextM (c:=p12_16) (i:=0) (d:=(some 43)) (ty:=0) (x:=(.tmp 42)) hS53 (by kernel_rfl) (by kernel_rfl) (by kernel_rfl) ?_ ?_
      ·intro hn54; obtain rfl:=List.map_eq_nil_iff.1 hn54
       have hp55:=rng_nil hb49
       have hS56:=hS53.mrShut
       refine sR 5 td101 ?_
       have hS57:=hS56.pick1
       have hS58:=hS57.drop
       have hS59:=hS58.pick3
       have hS60:=hS59.pick1
       have hS61:=hS60.pick3
       have hS62:=hS61.pick3
       exact rF _ (J39 ((Option.some.inj hp55).trans he48) _ _ hS62)
      intro j63 kx64 hj65 w66 hS67; obtain ⟨⟨t68,t69⟩,hj70,rfl,hl71⟩:=kv_at hj65; rw [kv_erase] at hS67
      obtain ⟨q72,hp73,hq74⟩:=rng_step hb49 hj70; have hq75:=rng_out hq74; try dsimp only at hp73
      have hS76 : St w0 Z (xmr y46 it30 (a0v_1m.map (kv Value.string (Value.int .i64))) ((t43.eraseIdx j63).map (kv Value.string (Value.int .i64))) (some (kv Value.string (Value.int .i64) (t68,t69)))::xmap b2 (t10.map (kv Value.string (Value.int .i64)))::xblk ba0 49 ([.map (some y45),.map (some y46),.map (some y47),.bool false])::xmap y45 (a0v_0m.map (kv Value.string (Value.int .i64)))::xmap y47 (a0v_2m.map (kv Value.string (Value.int .i64)))::fs) w66:=hS67
      refine sR 8 (.inRegion (opsOf (cd12 [1,1,1,1,1,0,1,0,0,1,1,0,0])) [0,1,2]::.code (cd12 [1,1,1,1,1,0,1,0,0,1,1,0,1])::td105) ?_
      refine rV (.entry (.tmp 42)) (.tuple #[.string t68,.int .i64 t69]) (fun o ho _ => x_entryM (hS76.at 0 rfl) (by kernel_rfl) ho) ?_
      refine sR 7 (.inRegion (opsOf p12_20) [2,3]::.code p12_21::td105) ?_
      refine rV (.lookup 41 (.tmp 47) (.tmp 48) false) (.int .i64 ((mget t10 t68).getD (0 : Int))) (fun o ho _ => x_lookup1 (eK:=Value.string) (eV:=(Value.int .i64)) (dk:=.string) (b:=b2) (t:=41) (kt:=9) (et:=3) (m:=t10) (kk:=t68) (z:=(0 : Int)) (hS76.at 1 rfl) key_str (by kernel_rfl) (by kernel_rfl) (by kernel_rfl) (by kernel_rfl) (by kernel_rfl) ho) ?_
      refine sI 1 (.inRegion (opsOf p12_20) []::.code p12_21::td105) 50 hp73 (fun hp79 => ?_) fun hp88 => ?_
      ·refine sR 6 (.code p12_22::td105) ?_
       refine r_isret (c:=p12_22) (by kernel_rfl) ?_
       have hS80:=hS76.mrShut
       have hS81:=hS80.pick1
       have hS82:=hS81.drop
       have hS83:=hS82.pick3
       have hS84:=hS83.pick1
       have hS85:=hS84.pick3
       have hS86:=hS85.pick3
       refine rR (.bool false) Try.func12 ?_
       cases hq52 _ (hq75 _ (Option.some.inj hp79))
       exact hR _ _ ⟨rfl,hS86⟩
      refine sR 4 td103 ?_
      have hS89:=hS76.mrOn
      have hS90:=hS89.pick4
      have hS91:=hS90.pick4
      have hS92:=hS91.pick4
      have hS93:=hS92.pick3
      have hS94:=hS93.pick4
      refine sR 1 td104 ?_
      exact rF _ (ih50 j63 hl71 _ (rng_on hq74 (Option.some.inj hp88)) he48 _ _ hS94)
     have hS95:=hS32.pick3
     have hS96:=hS95.pick3
     have hS97:=hS96.pick3
     have hS98:=hS97.pick3
     have hS99:=hS98.pick4
     exact rF _ (L51 a0v_1m _ hv34 rfl _ _ hS99)
    have L108 : ∀ (t100 : List (ByteArray × Int)) (e104 : Sum Unit (Bool × Bool)),weirlaw14_Book__within.l1 t10 t100 = some e104 → e104 = v20 → ∀ (l103 : List Value) (w101 : World) (hS102 : St w0 Z (xblk ba0 49 ([.map (some y45),.map (some y46),.map (some y47),.bool false])::xmr y45 it17 (a0v_0m.map (kv Value.string (Value.int .i64))) (t100.map (kv Value.string (Value.int .i64))) none::xmap y46 (a0v_1m.map (kv Value.string (Value.int .i64)))::xmap y47 (a0v_2m.map (kv Value.string (Value.int .i64)))::xmap b2 (t10.map (kv Value.string (Value.int .i64)))::fs) w101),Runs Try.prog (fx 12) td100 (fill (mk 51 [(0,.pointer (some ⟨ba0,0,none⟩)),(5,.map (some b2)),(29,.pointer (some ⟨it17,0,none⟩))]) l103) w101 R:=by
     refine rng_ind ?_
     intro t100 ih107 e104 hb106 he105 l103 w101 hS102
     unfold weirlaw14_Book__within.l1 at hb106
     have hq109 : ∀ x,Sum.inr x = e104 → x = (q0,q1):=fun x hx => hq25 x (hx.trans he105)
     refine sR 2 (.inRegion (opsOf p12_23) [0,1]::.code (cd12 [1,1,1,1,0,1,0,0,1])::td99) ?_
     have hS110:=hS102.pick1
     refine r_nextM (c:=p12_23) (i:=0) (d:=(some 30)) (ty:=0) (x:=(.tmp 29)) hS110 (by kernel_rfl) (by kernel_rfl) (by kernel_rfl) ?_ ?_
     ·intro hn111; obtain rfl:=List.map_eq_nil_iff.1 hn111
      have hp112:=rng_nil hb106
      have hS113:=hS110.mrShut
      refine sR 5 td97 ?_
      have hS114:=hS113.pick4
      have hS115:=hS114.pick4
      have hS116:=hS115.pick4
      have hS117:=hS116.pick3
      have hS118:=hS117.pick4
      exact rF _ (J26 ((Option.some.inj hp112).trans he105) _ _ hS118)
     intro j119 kx120 hj121 w122 hS123; obtain ⟨⟨t124,t125⟩,hj126,rfl,hl127⟩:=kv_at hj121; rw [kv_erase] at hS123
     obtain ⟨q128,hp129,hq130⟩:=rng_step hb106 hj126; have hq131:=rng_out hq130; try dsimp only at hp129
     have hS132 : St w0 Z (xmr y45 it17 (a0v_0m.map (kv Value.string (Value.int .i64))) ((t100.eraseIdx j119).map (kv Value.string (Value.int .i64))) (some (kv Value.string (Value.int .i64) (t124,t125)))::xblk ba0 49 ([.map (some y45),.map (some y46),.map (some y47),.bool false])::xmap y46 (a0v_1m.map (kv Value.string (Value.int .i64)))::xmap y47 (a0v_2m.map (kv Value.string (Value.int .i64)))::xmap b2 (t10.map (kv Value.string (Value.int .i64)))::fs) w122:=hS123
     refine sR 8 (.inRegion (opsOf (cd12 [1,1,1,1,0,1,0,0,1,1,0,0])) [0,1,2]::.code (cd12 [1,1,1,1,0,1,0,0,1,1,0,1])::td106) ?_
     refine rV (.entry (.tmp 29)) (.tuple #[.string t124,.int .i64 t125]) (fun o ho _ => x_entryM (hS132.at 0 rfl) (by kernel_rfl) ho) ?_
     refine sR 7 (.inRegion (opsOf p12_27) [2,3]::.code p12_28::td106) ?_
     refine rV (.lookup 41 (.tmp 34) (.tmp 35) false) (.int .i64 ((mget t10 t124).getD (0 : Int))) (fun o ho _ => x_lookup1 (eK:=Value.string) (eV:=(Value.int .i64)) (dk:=.string) (b:=b2) (t:=41) (kt:=9) (et:=3) (m:=t10) (kk:=t124) (z:=(0 : Int)) (hS132.at 4 rfl) key_str (by kernel_rfl) (by kernel_rfl) (by kernel_rfl) (by kernel_rfl) (by kernel_rfl) ho) ?_
     refine sI 1 (.inRegion (opsOf p12_27) []::.code p12_28::td106) 37 hp129 (fun hp135 => ?_) fun hp144 => ?_
     ·refine sR 6 (.code p12_29::td106) ?_
      refine r_isret (c:=p12_29) (by kernel_rfl) ?_
      have hS136:=hS132.mrShut
      have hS137:=hS136.pick4
      have hS138:=hS137.drop
      have hS139:=hS138.pick3
      have hS140:=hS139.pick3
      have hS141:=hS140.pick2
      have hS142:=hS141.pick3
      refine rR (.bool false) Try.func12 ?_
      cases hq109 _ (hq131 _ (Option.some.inj hp135))
      exact hR _ _ ⟨rfl,hS142⟩
     refine sR 4 td99 ?_
     have hS145:=hS132.mrOn
     have hS146:=hS145.pick4
     have hS147:=hS146.pick4
     have hS148:=hS147.pick4
     have hS149:=hS148.pick3
     have hS150:=hS149.pick4
     refine sR 1 td100 ?_
     exact rF _ (ih107 j119 hl127 _ (rng_on hq130 (Option.some.inj hp144)) he105 _ _ hS150)
    have hS151:=hS19.pick4
    have hS152:=hS151.pick4
    have hS153:=hS152.pick4
    have hS154:=hS153.pick3
    have hS155:=hS154.pick4
    exact rF _ (L108 a0v_0m _ hv21 rfl _ _ hS155)
   have L166 : ∀ (t156 : Int) (t157 : List (ByteArray × Int)) (e161 : (List (ByteArray × Int))),weirlaw14_Book__within.l0 a1 t156 t157 = some e161 → e161 = v7 → ∀ (l160 : List Value) (w158 : World) (hS159 : St w0 Z (xblk ba0 49 ([.map (some y45),.map (some y46),.map (some y47),.bool false])::xmap y45 (a0v_0m.map (kv Value.string (Value.int .i64)))::xmap y46 (a0v_1m.map (kv Value.string (Value.int .i64)))::xmap y47 (a0v_2m.map (kv Value.string (Value.int .i64)))::xmap b2 (t157.map (kv Value.string (Value.int .i64)))::fs) w158),Runs Try.prog (fx 12) td96 (fill (mk 51 [(0,.pointer (some ⟨ba0,0,none⟩)),(1,.slice Aa1 a1.length ca1),(5,.map (some b2)),(6,.int .i64 t156)]) l160) w158 R:=by
    refine weirlaw14_Book__within.l0.partial_correctness a1 (fun t156 t157 e161 => e161 = v7 → ∀ (l160 : List Value) (w158 : World) (hS159 : St w0 Z (xblk ba0 49 ([.map (some y45),.map (some y46),.map (some y47),.bool false])::xmap y45 (a0v_0m.map (kv Value.string (Value.int .i64)))::xmap y46 (a0v_1m.map (kv Value.string (Value.int .i64)))::xmap y47 (a0v_2m.map (kv Value.string (Value.int .i64)))::xmap b2 (t157.map (kv Value.string (Value.int .i64)))::fs) w158),Runs Try.prog (fx 12) td96 (fill (mk 51 [(0,.pointer (some ⟨ba0,0,none⟩)),(1,.slice Aa1 a1.length ca1),(5,.map (some b2)),(6,.int .i64 t156)]) l160) w158 R) ?_
    intro rec165 ih164 t156 t157 e161 hb163 he162 l160 w158 hS159
    refine sI 7 (.inRegion (opsOf (cd12 [1,1,1,0,1,0,0,0,0])) []::.code (cd12 [1,1,1,0,1,0,0,0,1])::.code (cd12 [1,1,1,0,1,0,0,1])::td95) 17 hb163 (fun hp169 => ?_) fun hp183 => ?_
    ·refine sR 9 (.inRegion (opsOf p12_33) [3,4,5]::.inBlock 1::.code (cd12 [1,1,1,0,1,0,0,1,1])::td95) ?_
     obtain ⟨g170,hp171⟩:=ite_some hp169
     obtain ⟨b172,p173,hA174,hc175⟩:=ha1.atF g170.1 g170.2
     refine r_indexAddr (c:=p12_33) (i:=3) (d:=(some 23)) (ty:=0) (t:=36) (e:=9) (n:=a1.length) (cp:=ca1) (sz:=1) (kk:=.i64) (x:=(.tmp 21)) (y:=(.tmp 22)) (b:=b172) (o':=p173) (j:=t156) (by kernel_rfl) (by kernel_rfl) (slv (by kernel_rfl) hA174) (by kernel_rfl) (by kernel_rfl) (by kernel_rfl) g170.1 g170.2 ?_
     refine rL1 9 (.tmp 23) 0 (hc175.cells hS159) ?_
     have hS176:=hS159.pick4
     refine r_mapUpdate (c:=p12_33) (i:=5) (d:=none) (ty:=0) (eK:=Value.string) (eV:=(Value.int .i64)) (dk:=.string) (b:=b2) (t:=41) (kt:=9) (et:=3) (x:=(.tmp 20)) (y:=(.tmp 24)) (z:=(.const (.int .i64 1))) (m:=t157) (kk:=(gt a1 t156)) (v:=1) hS176 (by kernel_rfl) (by kernel_rfl) key_str (by kernel_rfl) (by kernel_rfl) (by kernel_rfl) (by kernel_rfl) (by kernel_rfl) ?_
     intro w177 hS178
     refine sR 7 td95 ?_
     have hS179:=hS178.pick4
     have hS180:=hS179.pick4
     have hS181:=hS180.pick4
     have hS182:=hS181.pick4
     refine sR 1 td96 ?_
     exact rF _ (ih164 (IntKind.i64.wrap (t156 + 1)) (mput t157 (gt a1 t156) 1) _ hp171 he162 _ _ hS182)
    refine sR 3 td93 ?_
    exact rF _ (J13 t157 ((Option.some.inj hp183).trans he162) _ _ hS159)
   have hS184:=hS6.pick4
   have hS185:=hS184.pick4
   have hS186:=hS185.pick4
   have hS187:=hS186.pick4
   exact rF _ (L166 0 ([] : List (ByteArray × Int)) _ hv8 rfl _ _ hS187)
  have hp188:=ite_t hp0 rfl
  refine sR 5 [.code (cd12 [1,0,1,0,1]),.code (cd12 [1,1])] ?_
  refine rR (.bool false) Try.func12 ?_
  cases Option.some.inj hp188
  exact hR _ _ ⟨rfl,hS0⟩

end
end Go.Proofs.Ytfiamlhhhkiiaaa.K
