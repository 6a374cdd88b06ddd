/- The walk, part 2: each Go function as a plain Lean function, and that its call answers as that function says. No condition. -/
import Derived.Test.YtfiamlhhhkiiaaaE
import Derived.Test.YtfiamlhhhkiiaaaNG
import Derived.Test.YtfiamlhhhkiiaaaNP
import Derived.Test.YtfiamlhhhkiiaaaNM
import Derived.Test.YtfiamlhhhkiiaaaNQ
import Derived.Test.YtfiamlhhhkiiaaaNI
import Derived.Test.YtfiamlhhhkiiaaaNX
import Derived.Test.YtfiamlhhhkiiaaaNY
import Derived.Test.YtfiamlhhhkiiaaaNC
import Derived.Test.YtfiamlhhhkiiaaaNF
import Derived.Test.YtfiamlhhhkiiaaaNW
import Derived.Test.YtfiamlhhhkiiaaaNK
import Derived.Test.YtfiamlhhhkiiaaaND
import Derived.Test.YtfiamlhhhkiiaaaR1
set_option linter.unusedVariables false
set_option linter.unusedSimpArgs false
set_option maxRecDepth 100000
set_option synthInstance.maxSize 100000
set_option synthInstance.maxHeartbeats 4000000
namespace Go.Proofs.Ytfiamlhhhkiiaaa.K
open Go Go.RowKit
noncomputable section
set_option maxHeartbeats 16000000
variable {w0 : World} {Z : Zm} {fs : List XObj} {w : World}
noncomputable def cd32 (p : List Nat) : Code := sub (bodyOf Try.f32) p
abbrev p32_2:=cd32 [1,0]
abbrev p32_3:=cd32 [1,1]
abbrev p32_6:=cd32 [1,1,1,0,0]
abbrev p32_9:=cd32 [1,1,1,1,0,0]
abbrev p32_17:=cd32 [1,1,1,1,1,1,1,0,0]
abbrev p32_18:=cd32 [1,1,1,1,1,1,1,0,1]
abbrev p32_20:=cd32 [1,1,1,1,1,1,1,1,0]
abbrev p32_21:=cd32 [1,1,1,1,1,1,1,1,1]
abbrev p32_22:=cd32 [1,1,1,1,1,1,1,0,1,0]
abbrev p32_23:=cd32 [1,1,1,1,1,1,0,1,0]
abbrev td71:List Item:=[.code (cd32 [1,1,1,1])]
abbrev td72:List Item:=.code (cd32 [1,1,1,0,1])::td71
abbrev td73:List Item:=[.code (cd32 [1,1,1,1,1])]
abbrev td74:List Item:=.code (cd32 [1,1,1,1,0,1])::td73
abbrev td75:List Item:=[.code (cd32 [1,1,1,1,1,1,1])]
abbrev td76:List Item:=[.code (cd32 [1,1,1,1,1,1,1,1])]
def weirlaw14_Net__machine_3.f (a0 : ByteArray) (a1vv_0m a1vv_1m a1vv_2m : List (ByteArray × Int)) (a1vv_3 : Bool) (a2v : weirlaw14_Net) : Option (api_Final × Bool × Bool × (List (ByteArray × Int))) :=
  (weirlaw14_Net__number.f a2v a0 >>= (fun t8 => (((if (decide (((mget (mput a1vv_1m a0 (IntKind.i64.wrap (((mget a1vv_1m a0).getD (0 : Int)) + 1))) a0).getD (0 : Int)) > 1)) = true then some (true) else (if (decide (t8 < 0)) = true then some (true) else some (false))) : Option Bool) >>= (fun t16 => (((if t16 = true then some (true) else some (a1vv_3)) : Option Bool) >>= (fun t25 => (((if (decide (t8 < 0)) = true then some (true) else (if (decide (t8 ≥ (a2v.End.length : Int))) = true then some (true) else (if 0 ≤ t8 ∧ t8 < (a2v.End.length : Int) then (if (gt a2v.End t8) = true then some (false) else some (true)) else none))) : Option Bool) >>= (fun t34 => (if t34 = true then some (((⟨0,(Vector.replicate 48 0)⟩ : api_Final),false,t25,(mput a1vv_1m a0 (IntKind.i64.wrap (((mget a1vv_1m a0).getD (0 : Int)) + 1))))) else (((if (decide (t8 < (a2v.Value.length : Int))) = true then (if 0 ≤ t8 ∧ t8 < (a2v.Value.length : Int) then (if 0 ≤ (0 : Int) ∧ (0 : Int) < 48 then some ((⟨1,(vset (Vector.replicate 48 0) (0 : Int) (gt a2v.Value t8))⟩ : api_Final)) else none) else none) else some ((⟨1,(Vector.replicate 48 0)⟩ : api_Final))) : Option api_Final) >>= (fun t50 => (if 0 ≤ (0 : Int) ∧ (0 : Int) < 48 then (((if ((vget t50.V (0 : Int)) == 99) = true then some ((⟨(-1),t50.V⟩ : api_Final)) else some (t50)) : Option api_Final) >>= (fun t61 => some ((t61,true,t25,(mput a1vv_1m a0 (IntKind.i64.wrap (((mget a1vv_1m a0).getD (0 : Int)) + 1))))))) else none))))))))))))
theorem weirlaw14_Net__machine_3.ok {a0 : ByteArray} {a1vv_0m a1vv_1m a1vv_2m : List (ByteArray × Int)} {a1vv_3 : Bool} {a2v : weirlaw14_Net} {ba1 ba1v : Nat} {ba1vv_0 ba1vv_1 : Nat} {ba1vv_2 ba2 : Nat} {y10 : Option Addr} {y11 : Nat} {y12 : Option Addr} {y13 : Nat} {y14 : Option Addr} {y15 : Nat} {q0 : api_Final} {q1 q2 : Bool} {q3 : List (ByteArray × Int)} (hp0 : weirlaw14_Net__machine_3.f a0 a1vv_0m a1vv_1m a1vv_2m a1vv_3 a2v = some (q0,q1,q2,q3)) (hS0 : St w0 Z (xblk ba1 33 ([.pointer (some ⟨ba1v,0,none⟩)])::xblk ba1v 49 ([.map (some ba1vv_0),.map (some ba1vv_1),.map (some ba1vv_2),.bool a1vv_3])::xmap ba1vv_0 (a1vv_0m.map (kv Value.string (Value.int .i64)))::xmap ba1vv_1 (a1vv_1m.map (kv Value.string (Value.int .i64)))::xmap ba1vv_2 (a1vv_2m.map (kv Value.string (Value.int .i64)))::xblk ba2 26 ([.slice y10 a2v.Next.length y11,.slice y12 a2v.End.length y13,.slice y14 a2v.Value.length y15,.int .i64 a2v.Start])::fs) w) (y16 : SlZ (repL (flat (encI .i64)) 1) 1 Z y10 y11 a2v.Next) (y17 : SlZ (flat encB) 1 Z y12 y13 a2v.End) (y18 : SlZ (flat (encI .i64)) 1 Z y14 y15 a2v.Value) :
    Calls Try.prog 32 #[.string a0,.pointer (some ⟨ba1,0,none⟩),.pointer (some ⟨ba2,0,none⟩)] w (fun e w' => e = .returned (.tuple #[.agg (enc_api_Final q0).toArray,.bool q1]) ∧ St w0 Z (xblk ba1 33 ([.pointer (some ⟨ba1v,0,none⟩)])::xblk ba1v 49 ([.map (some ba1vv_0),.map (some ba1vv_1),.map (some ba1vv_2),.bool q2])::xmap ba1vv_0 (a1vv_0m.map (kv Value.string (Value.int .i64)))::xmap ba1vv_1 (q3.map (kv Value.string (Value.int .i64)))::xmap ba1vv_2 (a1vv_2m.map (kv Value.string (Value.int .i64)))::xblk ba2 26 ([.slice y10 a2v.Next.length y11,.slice y12 a2v.End.length y13,.slice y14 a2v.Value.length y15,.int .i64 a2v.Start])::fs) w'):=by
  refine calls_abs ?_; intro R hR
  unfold weirlaw14_Net__machine_3.f at hp0
  refine calls_of_runs (fn:=Try.f32) (c:=cd32 []) Try.func32 (by kernel_rfl) (al:=[.string a0,.pointer (some ⟨ba1,0,none⟩),.pointer (some ⟨ba2,0,none⟩)]) rfl (n:=66) rfl ?_
  refine sR 2 [.inRegion (opsOf (cd32 [0])) [0,1],.code (cd32 [1])] ?_
  refine rA 84 (.agg (enc_api_Final (⟨0,(Vector.replicate 48 0)⟩ : api_Final)).toArray) (enc_api_Final (⟨0,(Vector.replicate 48 0)⟩ : api_Final)) hS0 ?_
  intro b1 w2 hS3
  refine sR 4 [iR p32_2 0 8,.code p32_3] ?_
  refine rL1 33 (.tmp 1) 0 (hS3.blk 1 rfl) ?_
  refine sR 2 [iR p32_2 3 5,.code p32_3] ?_
  refine rL1 41 (.tmp 10) 1 (hS3.blk 2 rfl) ?_
  refine sR 1 [.inRegion (opsOf p32_2) [5,6,7],.code p32_3] ?_
  refine rV (.lookup 41 (.tmp 11) (.tmp 12) false) (.int .i64 ((mget a1vv_1m a0).getD (0 : Int))) (fun o ho _ => x_lookup1 (eK:=Value.string) (eV:=(Value.int .i64)) (dk:=.string) (b:=ba1vv_1) (t:=41) (kt:=9) (et:=3) (m:=a1vv_1m) (kk:=a0) (z:=(0 : Int)) (hS3.at 4 rfl) key_str (by kernel_rfl) (by kernel_rfl) (by kernel_rfl) (by kernel_rfl) (by kernel_rfl) ho) ?_
  refine sR 1 [.inRegion (opsOf p32_2) [7],.code p32_3] ?_
  have hS5:=hS3.pick4
  refine r_mapUpdate (c:=p32_2) (i:=7) (d:=none) (ty:=0) (eK:=Value.string) (eV:=(Value.int .i64)) (dk:=.string) (b:=ba1vv_1) (t:=41) (kt:=9) (et:=3) (x:=(.tmp 11)) (y:=(.tmp 12)) (z:=(.tmp 14)) (m:=a1vv_1m) (kk:=a0) (v:=(IntKind.i64.wrap (((mget a1vv_1m a0).getD (0 : Int)) + 1))) hS5 (by kernel_rfl) (by kernel_rfl) key_str (by kernel_rfl) (by kernel_rfl) (by kernel_rfl) (by kernel_rfl) (by kernel_rfl) ?_
  intro w6 hS7
  refine sR 3 [iR (cd32 [1,1,0]) 0 4,.code (cd32 [1,1,1])] ?_
  refine rLa 26 (.tmp 2) (hS7.blk 6 rfl) ?_
  refine sR 1 [.inRegion (opsOf (cd32 [1,1,0])) [2,3],.code (cd32 [1,1,1])] ?_
  obtain ⟨t8,hr9,hp10⟩:=bind_some' hp0
  refine rC (weirlaw14_Net__number.ok hr9 hS7 y16 y17 y18) ?_
  rintro _ w11 ⟨rfl,hS12⟩
  refine ⟨_,rfl,?_⟩
  refine sR 4 (.code p32_6::td72) ?_
  obtain ⟨v13,hv14,hp15⟩:=bind_some' hp10
  have J19 : ∀ (t16 : Bool) (he21 : t16 = v13) (l20 : List Value) (w17 : World) (hS18 : St w0 Z (xblk ba1 33 ([.pointer (some ⟨ba1v,0,none⟩)])::xblk ba1v 49 ([.map (some ba1vv_0),.map (some ba1vv_1),.map (some ba1vv_2),.bool a1vv_3])::xmap ba1vv_0 (a1vv_0m.map (kv Value.string (Value.int .i64)))::xmap ba1vv_1 ((mput a1vv_1m a0 (IntKind.i64.wrap (((mget a1vv_1m a0).getD (0 : Int)) + 1))).map (kv Value.string (Value.int .i64)))::xmap ba1vv_2 (a1vv_2m.map (kv Value.string (Value.int .i64)))::xblk ba2 26 ([.slice y10 a2v.Next.length y11,.slice y12 a2v.End.length y13,.slice y14 a2v.Value.length y15,.int .i64 a2v.Start])::xblk b1 84 (enc_api_Final (⟨0,(Vector.replicate 48 0)⟩ : api_Final))::fs) w17),Runs Try.prog (fx 32) td72 (fill (mk 69 [(1,.pointer (some ⟨ba1,0,none⟩)),(2,.pointer (some ⟨ba2,0,none⟩)),(4,.pointer (some ⟨b1,0,none⟩)),(6,.int .i64 t8),(28,.bool t16)]) l20) w17 R:=by
   intro t16 he21 l20 w17 hS18
   subst he21
   try dsimp only at hp15
   obtain ⟨v22,hv23,hp24⟩:=bind_some' hp15
   have J28 : ∀ (t25 : Bool) (he30 : t25 = v22) (l29 : List Value) (w26 : World) (hS27 : St w0 Z (xblk ba2 26 ([.slice y10 a2v.Next.length y11,.slice y12 a2v.End.length y13,.slice y14 a2v.Value.length y15,.int .i64 a2v.Start])::xblk b1 84 (enc_api_Final (⟨0,(Vector.replicate 48 0)⟩ : api_Final))::xblk ba1 33 ([.pointer (some ⟨ba1v,0,none⟩)])::xblk ba1v 49 ([.map (some ba1vv_0),.map (some ba1vv_1),.map (some ba1vv_2),.bool t25])::xmap ba1vv_0 (a1vv_0m.map (kv Value.string (Value.int .i64)))::xmap ba1vv_1 ((mput a1vv_1m a0 (IntKind.i64.wrap (((mget a1vv_1m a0).getD (0 : Int)) + 1))).map (kv Value.string (Value.int .i64)))::xmap ba1vv_2 (a1vv_2m.map (kv Value.string (Value.int .i64)))::fs) w26),Runs Try.prog (fx 32) td71 (fill (mk 69 [(2,.pointer (some ⟨ba2,0,none⟩)),(4,.pointer (some ⟨b1,0,none⟩)),(6,.int .i64 t8)]) l29) w26 R:=by
    intro t25 he30 l29 w26 hS27
    subst he30
    try dsimp only at hp24
    refine sR 2 (.code p32_9::td74) ?_
    obtain ⟨v31,hv32,hp33⟩:=bind_some' hp24
    have J37 : ∀ (t34 : Bool) (he39 : t34 = v31) (l38 : List Value) (w35 : World) (hS36 : St w0 Z (xblk ba2 26 ([.slice y10 a2v.Next.length y11,.slice y12 a2v.End.length y13,.slice y14 a2v.Value.length y15,.int .i64 a2v.Start])::xblk b1 84 (enc_api_Final (⟨0,(Vector.replicate 48 0)⟩ : api_Final))::xblk ba1 33 ([.pointer (some ⟨ba1v,0,none⟩)])::xblk ba1v 49 ([.map (some ba1vv_0),.map (some ba1vv_1),.map (some ba1vv_2),.bool t25])::xmap ba1vv_0 (a1vv_0m.map (kv Value.string (Value.int .i64)))::xmap ba1vv_1 ((mput a1vv_1m a0 (IntKind.i64.wrap (((mget a1vv_1m a0).getD (0 : Int)) + 1))).map (kv Value.string (Value.int .i64)))::xmap ba1vv_2 (a1vv_2m.map (kv Value.string (Value.int .i64)))::fs) w35),Runs Try.prog (fx 32) td74 (fill (mk 69 [(2,.pointer (some ⟨ba2,0,none⟩)),(4,.pointer (some ⟨b1,0,none⟩)),(6,.int .i64 t8),(48,.bool t34)]) l38) w35 R:=by
     intro t34 he39 l38 w35 hS36
     subst he39
     try dsimp only at hp33
     cases t34
     ·have hp40:=ite_f hp33 rfl
      refine sR 4 [.inRegion (opsOf (cd32 [1,1,1,1,1,0])) [0,1,2],.code (cd32 [1,1,1,1,1,1])] ?_
      refine rV (.build 84 #[(0,(.const (.int .i64 1)))]) (.agg (enc_api_Final (⟨1,(Vector.replicate 48 0)⟩ : api_Final)).toArray) (fun o ho _ => x_build (t:=84) (c:=(enc_api_Final (⟨1,(Vector.replicate 48 0)⟩ : api_Final) : List Value).toArray) (ps:=#[(0,(.const (.int .i64 1)))]) Try.underlying84 hz_84 hp_84 (by kernel_rfl) ho) ?_
      refine rA 84 (.agg (enc_api_Final (⟨0,(Vector.replicate 48 0)⟩ : api_Final)).toArray) (enc_api_Final (⟨0,(Vector.replicate 48 0)⟩ : api_Final)) hS36 ?_
      intro b41 w42 hS43
      refine r_store (c:=(cd32 [1,1,1,1,1,0])) (i:=2) (d:=none) (ty:=0) (t:=84) (x:=(.tmp 7)) (y:=(.tmp 50)) (b:=b41) (o:=0) (e:=84) (cs:=enc_api_Final (⟨0,(Vector.replicate 48 0)⟩ : api_Final)) (v:=.agg (enc_api_Final (⟨1,(Vector.replicate 48 0)⟩ : api_Final)).toArray) (vs:=enc_api_Final (⟨1,(Vector.replicate 48 0)⟩ : api_Final)) (cs':=enc_api_Final (⟨1,(Vector.replicate 48 0)⟩ : api_Final)) hS43 (by kernel_rfl) (by kernel_rfl) (by kernel_rfl) (by kernel_rfl) (by kernel_rfl) (lenK (len_api_Final _) (by kernel_rfl)) (one_api_Final _) (by simp only [len_api_Final,List.length_cons,List.length_nil,List.length_append]; omega) (over_all ((len_api_Final _).trans (len_api_Final _).symm)) ?_
      intro w45 hS46
      refine sR 6 (.inRegion (opsOf (cd32 [1,1,1,1,1,1,0,0])) [2,3,4]::.code (cd32 [1,1,1,1,1,1,0,1])::td75) ?_
      refine rL1 24 (.tmp 52) 2 (hS46.blk 1 rfl) ?_
      obtain ⟨v47,hv48,hp49⟩:=bind_some' hp40
      have J53 : ∀ (t50 : api_Final) (he55 : t50 = v47) (l54 : List Value) (w51 : World) (hS52 : St w0 Z (xblk b1 84 (enc_api_Final (⟨0,(Vector.replicate 48 0)⟩ : api_Final))::xblk b41 84 (enc_api_Final t50)::xblk ba1 33 ([.pointer (some ⟨ba1v,0,none⟩)])::xblk ba1v 49 ([.map (some ba1vv_0),.map (some ba1vv_1),.map (some ba1vv_2),.bool t25])::xmap ba1vv_0 (a1vv_0m.map (kv Value.string (Value.int .i64)))::xmap ba1vv_1 ((mput a1vv_1m a0 (IntKind.i64.wrap (((mget a1vv_1m a0).getD (0 : Int)) + 1))).map (kv Value.string (Value.int .i64)))::xmap ba1vv_2 (a1vv_2m.map (kv Value.string (Value.int .i64)))::xblk ba2 26 ([.slice y10 a2v.Next.length y11,.slice y12 a2v.End.length y13,.slice y14 a2v.Value.length y15,.int .i64 a2v.Start])::fs) w51),Runs Try.prog (fx 32) td75 (fill (mk 69 [(4,.pointer (some ⟨b1,0,none⟩)),(7,.pointer (some ⟨b41,0,none⟩))]) l54) w51 R:=by
       intro t50 he55 l54 w51 hS52
       subst he55
       try dsimp only at hp49
       refine sR 4 (.inRegion (opsOf p32_17) [1,2,3]::.code p32_18::td76) ?_
       obtain ⟨g56,hp57⟩:=ite_some hp49
       refine r_indexArr (c:=p32_17) (i:=1) (d:=(some 64)) (ty:=0) (t:=82) (e:=2) (sz:=1) (kk:=.i64) (x:=(.tmp 63)) (y:=(.const (.int .i64 0))) (b:=b41) (o':=1) (n:=48) (j:=(0 : Int)) (by kernel_rfl) (by kernel_rfl) (by kernel_rfl) (by kernel_rfl) (by kernel_rfl) (by kernel_rfl) g56.1 g56.2 ?_
       refine rL1 2 (.tmp 64) 0 (cells_vget (sub_api_Final_V (hS52.blk 1 rfl)) (len_encI .i64) g56.1 g56.2) ?_
       obtain ⟨v58,hv59,hp60⟩:=bind_some' hp57
       have J64 : ∀ (t61 : api_Final) (he66 : t61 = v58) (l65 : List Value) (w62 : World) (hS63 : St w0 Z (xblk b1 84 (enc_api_Final (⟨0,(Vector.replicate 48 0)⟩ : api_Final))::xblk b41 84 (enc_api_Final t61)::xblk ba1 33 ([.pointer (some ⟨ba1v,0,none⟩)])::xblk ba1v 49 ([.map (some ba1vv_0),.map (some ba1vv_1),.map (some ba1vv_2),.bool t25])::xmap ba1vv_0 (a1vv_0m.map (kv Value.string (Value.int .i64)))::xmap ba1vv_1 ((mput a1vv_1m a0 (IntKind.i64.wrap (((mget a1vv_1m a0).getD (0 : Int)) + 1))).map (kv Value.string (Value.int .i64)))::xmap ba1vv_2 (a1vv_2m.map (kv Value.string (Value.int .i64)))::xblk ba2 26 ([.slice y10 a2v.Next.length y11,.slice y12 a2v.End.length y13,.slice y14 a2v.Value.length y15,.int .i64 a2v.Start])::fs) w62),Runs Try.prog (fx 32) td76 (fill (mk 69 [(4,.pointer (some ⟨b1,0,none⟩)),(7,.pointer (some ⟨b41,0,none⟩))]) l65) w62 R:=by
        intro t61 he66 l65 w62 hS63
        subst he66
        try dsimp only at hp60
        refine sR 2 [.inRegion (opsOf p32_20) [0,1,2],.code p32_21] ?_
        refine rL 84 (.tmp 7) (loads_agg (hS63.blk 1 rfl) (by kernel_rfl) (lenK (len_api_Final _) (by kernel_rfl))) ?_
        refine r_store (c:=p32_20) (i:=1) (d:=none) (ty:=0) (t:=84) (x:=(.tmp 4)) (y:=(.tmp 68)) (b:=b1) (o:=0) (e:=84) (cs:=enc_api_Final (⟨0,(Vector.replicate 48 0)⟩ : api_Final)) (v:=.agg (enc_api_Final t61).toArray) (vs:=enc_api_Final t61) (cs':=enc_api_Final t61) hS63 (by kernel_rfl) (by kernel_rfl) (by kernel_rfl) (by kernel_rfl) (by kernel_rfl) (lenK (len_api_Final _) (by kernel_rfl)) (one_api_Final _) (by simp only [len_api_Final,List.length_cons,List.length_nil,List.length_append]; omega) (over_all ((len_api_Final _).trans (len_api_Final _).symm)) ?_
        intro w67 hS68
        refine sR 2 [.code p32_21] ?_
        have hS69:=hS68.drop
        have hS70:=hS69.drop
        refine runs_ret (fn:=Try.f32) (v:=.tuple #[.agg (enc_api_Final t61).toArray,.bool true]) Try.func32 (resl_run (fn:=Try.f32) (by kernel_rfl) (.cell (t:=4) (ty:=84) (by kernel_rfl) (loads_agg (hS68.blk 0 rfl) (by kernel_rfl) (lenK (len_api_Final _) (by kernel_rfl))) (.tmp (t:=5) (by kernel_rfl) .nil))) ?_
        cases Option.some.inj hp60
        exact hR _ _ ⟨rfl,hS70⟩
       refine sI 1 (.inRegion (opsOf p32_17) []::.code p32_18::td76) 66 hv59 (fun hp74 => ?_) fun hp86 => ?_
       ·refine sR 4 (.inRegion (opsOf p32_22) [1]::td76) ?_
        have hS75:=hS52.pick1
        refine r_store (c:=p32_22) (i:=1) (d:=none) (ty:=0) (t:=3) (x:=(.tmp 67)) (y:=(.const (.int .i64 (-1)))) (b:=b41) (o:=0) (e:=84) (cs:=enc_api_Final t50) (v:=.int .i64 (-1)) (vs:=[.int .i64 (-1)]) (cs':=enc_api_Final (⟨(-1),t50.V⟩ : api_Final)) hS75 (by kernel_rfl) (by kernel_rfl) (by kernel_rfl) (by kernel_rfl) (by kernel_rfl) (by kernel_rfl) (by kernel_rfl) (by simp only [len_api_Final,List.length_cons,List.length_nil,List.length_append]; omega) (put_api_Final_N _ _) ?_
        intro w76 hS77
        refine sR 1 td76 ?_
        have hS78:=hS77.pick7
        have hS79:=hS78.pick7
        have hS80:=hS79.pick7
        have hS81:=hS80.pick7
        have hS82:=hS81.pick7
        have hS83:=hS82.pick7
        have hS84:=hS83.pick6
        have hS85:=hS84.pick7
        exact rF _ (J64 (⟨(-1),t50.V⟩ : api_Final) (Option.some.inj hp74) _ _ hS85)
       refine sR 3 td76 ?_
       exact rF _ (J64 t50 (Option.some.inj hp86) _ _ hS52)
      refine sI 2 (.inRegion (opsOf (cd32 [1,1,1,1,1,1,0,0])) []::.code (cd32 [1,1,1,1,1,1,0,1])::td75) 55 hv48 (fun hp89 => ?_) fun hp108 => ?_
      ·refine sR 4 (iR p32_23 1 7::td75) ?_
       refine rL1 24 (.tmp 56) 2 (hS46.blk 1 rfl) ?_
       refine sR 1 (iR p32_23 3 5::td75) ?_
       obtain ⟨g90,hp91⟩:=ite_some hp89
       obtain ⟨b92,p93,hA94,hc95⟩:=y18.atF g90.1 g90.2
       refine r_indexAddr (c:=p32_23) (i:=3) (d:=(some 59)) (ty:=0) (t:=24) (e:=2) (n:=a2v.Value.length) (cp:=y15) (sz:=1) (kk:=.i64) (x:=(.tmp 57)) (y:=(.tmp 58)) (b:=b92) (o':=p93) (j:=t8) (by kernel_rfl) (by kernel_rfl) (slv (by kernel_rfl) hA94) (by kernel_rfl) (by kernel_rfl) (by kernel_rfl) g90.1 g90.2 ?_
       refine rL1 2 (.tmp 59) 0 (hc95.cells hS46) ?_
       refine sR 1 (.inRegion (opsOf p32_23) [6,7]::td75) ?_
       obtain ⟨g96,hp97⟩:=ite_some hp91
       refine r_indexArr (c:=p32_23) (i:=6) (d:=(some 62)) (ty:=0) (t:=82) (e:=2) (sz:=1) (kk:=.i64) (x:=(.tmp 61)) (y:=(.const (.int .i64 0))) (b:=b41) (o':=1) (n:=48) (j:=(0 : Int)) (by kernel_rfl) (by kernel_rfl) (by kernel_rfl) (by kernel_rfl) (by kernel_rfl) (by kernel_rfl) g96.1 g96.2 ?_
       refine r_store (c:=p32_23) (i:=7) (d:=none) (ty:=0) (t:=2) (x:=(.tmp 62)) (y:=(.tmp 60)) (b:=b41) (o:=1 + (0 : Int).toNat * 1) (e:=84) (cs:=enc_api_Final (⟨1,(Vector.replicate 48 0)⟩ : api_Final)) (v:=.int .i64 (gt a2v.Value t8)) (vs:=[.int .i64 (gt a2v.Value t8)]) (cs':=enc_api_Final (⟨1,(vset (Vector.replicate 48 0) (0 : Int) (gt a2v.Value t8))⟩ : api_Final)) hS46 (by kernel_rfl) (by kernel_rfl) (by kernel_rfl) (by kernel_rfl) (by kernel_rfl) (by kernel_rfl) (by kernel_rfl) (by have:=g96.1; have:=g96.2; simp only [len_api_Final,List.length_cons,List.length_nil,List.length_append]; omega) (over_api_Final_V _ _ _ g96.1 g96.2) ?_
       intro w98 hS99
       refine sR 1 td75 ?_
       have hS100:=hS99.pick1
       have hS101:=hS100.pick7
       have hS102:=hS101.pick7
       have hS103:=hS102.pick7
       have hS104:=hS103.pick7
       have hS105:=hS104.pick7
       have hS106:=hS105.pick6
       have hS107:=hS106.pick7
       exact rF _ (J53 (⟨1,(vset (Vector.replicate 48 0) (0 : Int) (gt a2v.Value t8))⟩ : api_Final) (Option.some.inj hp97) _ _ hS107)
      refine sR 3 td75 ?_
      have hS109:=hS46.pick1
      have hS110:=hS109.pick7
      have hS111:=hS110.pick7
      have hS112:=hS111.pick7
      have hS113:=hS112.pick7
      have hS114:=hS113.pick7
      have hS115:=hS114.pick6
      have hS116:=hS115.pick7
      exact rF _ (J53 (⟨1,(Vector.replicate 48 0)⟩ : api_Final) (Option.some.inj hp108) _ _ hS116)
     have hp117:=ite_t hp33 rfl
     refine sR 3 (.inRegion (opsOf (cd32 [1,1,1,1,0,1,0,0])) [0,1,2]::.code (cd32 [1,1,1,1,0,1,0,1])::td73) ?_
     refine rV (.build 84 #[]) (.agg (enc_api_Final (⟨0,(Vector.replicate 48 0)⟩ : api_Final)).toArray) (fun o ho _ => x_build (t:=84) (c:=(enc_api_Final (⟨0,(Vector.replicate 48 0)⟩ : api_Final) : List Value).toArray) (ps:=#[]) Try.underlying84 hz_84 hp_84 (by kernel_rfl) ho) ?_
     have hS118:=hS36.pick1
     refine r_store (c:=(cd32 [1,1,1,1,0,1,0,0])) (i:=1) (d:=none) (ty:=0) (t:=84) (x:=(.tmp 4)) (y:=(.tmp 49)) (b:=b1) (o:=0) (e:=84) (cs:=enc_api_Final (⟨0,(Vector.replicate 48 0)⟩ : api_Final)) (v:=.agg (enc_api_Final (⟨0,(Vector.replicate 48 0)⟩ : api_Final)).toArray) (vs:=enc_api_Final (⟨0,(Vector.replicate 48 0)⟩ : api_Final)) (cs':=enc_api_Final (⟨0,(Vector.replicate 48 0)⟩ : api_Final)) hS118 (by kernel_rfl) (by kernel_rfl) (by kernel_rfl) (by kernel_rfl) (by kernel_rfl) (lenK (len_api_Final _) (by kernel_rfl)) (one_api_Final _) (by simp only [len_api_Final,List.length_cons,List.length_nil,List.length_append]; omega) (over_all ((len_api_Final _).trans (len_api_Final _).symm)) ?_
     intro w119 hS120
     refine sR 2 (.code (cd32 [1,1,1,1,0,1,0,1])::td73) ?_
     have hS121:=hS120.drop
     have hS122:=hS121.pick5
     have hS123:=hS122.pick5
     have hS124:=hS123.pick5
     have hS125:=hS124.pick5
     have hS126:=hS125.pick5
     refine runs_ret (fn:=Try.f32) (v:=.tuple #[.agg (enc_api_Final (⟨0,(Vector.replicate 48 0)⟩ : api_Final)).toArray,.bool false]) Try.func32 (resl_run (fn:=Try.f32) (by kernel_rfl) (.cell (t:=4) (ty:=84) (by kernel_rfl) (loads_agg (hS120.blk 0 rfl) (by kernel_rfl) (lenK (len_api_Final _) (by kernel_rfl))) (.tmp (t:=5) (by kernel_rfl) .nil))) ?_
     cases Option.some.inj hp117
     exact hR _ _ ⟨rfl,hS126⟩
    refine sI 3 (iR p32_9 2 15::td74) 33 hv32 (fun hp130 => ?_) fun hp131 => ?_
    ·refine sR 16 td74 ?_
     exact rF _ (J37 true (Option.some.inj hp130) _ _ hS27)
    refine sR 3 (iR p32_9 5 12::td74) ?_
    refine rL1 23 (.tmp 36) 1 (hS27.blk 0 rfl) ?_
    refine sI 2 (iR p32_9 8 9::td74) 39 hp131 (fun hp134 => ?_) fun hp135 => ?_
    ·refine sR 10 td74 ?_
     exact rF _ (J37 true (Option.some.inj hp134) _ _ hS27)
    refine sR 3 (iR p32_9 11 6::td74) ?_
    refine rL1 23 (.tmp 42) 1 (hS27.blk 0 rfl) ?_
    refine sR 1 (iR p32_9 13 4::td74) ?_
    obtain ⟨g136,hp137⟩:=ite_some hp135
    obtain ⟨b138,p139,hA140,hc141⟩:=y17.atF g136.1 g136.2
    refine r_indexAddr (c:=p32_9) (i:=13) (d:=(some 45)) (ty:=0) (t:=23) (e:=4) (n:=a2v.End.length) (cp:=y13) (sz:=1) (kk:=.i64) (x:=(.tmp 43)) (y:=(.tmp 44)) (b:=b138) (o':=p139) (j:=t8) (by kernel_rfl) (by kernel_rfl) (slv (by kernel_rfl) hA140) (by kernel_rfl) (by kernel_rfl) (by kernel_rfl) g136.1 g136.2 ?_
    refine rL1 4 (.tmp 45) 0 (hc141.cells hS27) ?_
    refine r_split (gt a2v.End t8) (fun h142 => ?_) (fun h143 => ?_)
    ·have hp144:=ite_t hp137 h142
     refine sR 3 td74 ?_
     exact rF _ (J37 false (Option.some.inj hp144) _ _ hS27)
    have hp145:=ite_f hp137 h143
    refine sR 3 td74 ?_
    exact rF _ (J37 true (Option.some.inj hp145) _ _ hS27)
   cases t16
   ·have hp146:=ite_f hv23 rfl
    refine sR 2 td71 ?_
    have hS147:=hS18.pick4
    have hS148:=hS147.pick4
    have hS149:=hS148.pick4
    have hS150:=hS149.pick4
    have hS151:=hS150.pick4
    have hS152:=hS151.pick6
    have hS153:=hS152.pick6
    exact rF _ (J28 a1vv_3 (Option.some.inj hp146) _ _ hS153)
   have hp154:=ite_t hv23 rfl
   refine sR 2 (iR (cd32 [1,1,1,0,1,0]) 0 4::td71) ?_
   refine rL1 33 (.tmp 1) 0 (hS18.blk 0 rfl) ?_
   refine sR 2 (.inRegion (opsOf (cd32 [1,1,1,0,1,0])) [3]::td71) ?_
   have hS155:=hS18.pick1
   refine rS 4 (.tmp 31) (.const (.bool true)) 3 (.bool true) [.bool true] [.map (some ba1vv_0),.map (some ba1vv_1),.map (some ba1vv_2),.bool true] hS155 ?_
   intro w156 hS157
   refine sR 1 td71 ?_
   have hS158:=hS157.pick4
   have hS159:=hS158.pick4
   have hS160:=hS159.pick4
   have hS161:=hS160.pick3
   have hS162:=hS161.pick4
   have hS163:=hS162.pick6
   have hS164:=hS163.pick6
   exact rF _ (J28 true (Option.some.inj hp154) _ _ hS164)
  refine sR 1 (iR p32_6 0 11::td72) ?_
  refine rL1 33 (.tmp 1) 0 (hS12.blk 2 rfl) ?_
  refine sR 2 (iR p32_6 3 8::td72) ?_
  refine rL1 41 (.tmp 20) 1 (hS12.blk 3 rfl) ?_
  refine sR 1 (iR p32_6 5 6::td72) ?_
  refine rV (.lookup 41 (.tmp 21) (.tmp 22) false) (.int .i64 ((mget (mput a1vv_1m a0 (IntKind.i64.wrap (((mget a1vv_1m a0).getD (0 : Int)) + 1))) a0).getD (0 : Int))) (fun o ho _ => x_lookup1 (eK:=Value.string) (eV:=(Value.int .i64)) (dk:=.string) (b:=ba1vv_1) (t:=41) (kt:=9) (et:=3) (m:=(mput a1vv_1m a0 (IntKind.i64.wrap (((mget a1vv_1m a0).getD (0 : Int)) + 1)))) (kk:=a0) (z:=(0 : Int)) (hS12.at 0 rfl) key_str (by kernel_rfl) (by kernel_rfl) (by kernel_rfl) (by kernel_rfl) (by kernel_rfl) ho) ?_
  refine sI 1 (iR p32_6 7 4::td72) 24 hv14 (fun hp167 => ?_) fun hp175 => ?_
  ·refine sR 5 td72 ?_
   have hS168:=hS12.pick1
   have hS169:=hS168.pick6
   have hS170:=hS169.pick6
   have hS171:=hS170.pick3
   have hS172:=hS171.pick6
   have hS173:=hS172.pick6
   have hS174:=hS173.pick6
   exact rF _ (J19 true (Option.some.inj hp167) _ _ hS174)
  refine sI 3 (.inRegion (opsOf p32_6) [10]::td72) 27 hp175 (fun hp178 => ?_) fun hp186 => ?_
  ·refine sR 2 td72 ?_
   have hS179:=hS12.pick1
   have hS180:=hS179.pick6
   have hS181:=hS180.pick6
   have hS182:=hS181.pick3
   have hS183:=hS182.pick6
   have hS184:=hS183.pick6
   have hS185:=hS184.pick6
   exact rF _ (J19 true (Option.some.inj hp178) _ _ hS185)
  refine sR 2 td72 ?_
  have hS187:=hS12.pick1
  have hS188:=hS187.pick6
  have hS189:=hS188.pick6
  have hS190:=hS189.pick3
  have hS191:=hS190.pick6
  have hS192:=hS191.pick6
  have hS193:=hS192.pick6
  exact rF _ (J19 false (Option.some.inj hp186) _ _ hS193)

noncomputable def cd20 (p : List Nat) : Code := sub (bodyOf Try.f20) p
abbrev p20_0:=cd20 [1,1,1,1,1,1,1,0,1,0,0]
abbrev p20_1:=cd20 [1,1,1,1,1,1,1,0,1,0,1]
abbrev p20_2:=cd20 [1,1,1,1,1,1,1,0,1,0,1,0,1,0,0]
abbrev p20_6:=cd20 [1,1,1,1,1,1,1,0,1,0,1,0,1,1,0,0]
abbrev p20_7:=cd20 [1,1,1,1,1,1,1,0,1,0,1,0,1,1,0,1]
abbrev p20_8:=cd20 [1,1,1,1,1,1,1,0,1,0,1,0,1,1,1]
abbrev p20_9:=cd20 [1,1,1,1,1,1,1,0,1,0,1,0,1,1,0,1,0,0]
abbrev p20_12:=cd20 [1,1,1,1,1,1,1,0,1,0,1,0,1,1,0,1,0,0,1,1,0,0,0]
abbrev p20_15:=cd20 [1,1,1,1,1,1,1,0,1,0,1,0,1,1,0,1,0,0,1,1,0,0,1,0]
abbrev p20_16:=cd20 [1,1,1,1,1,1,1,0,1,0,1,0,1,1,0,1,0,0,1,1,0,0,1,1]
abbrev td77:List Item:=[.inBlock 1]
abbrev td78:List Item:=.code (cd20 [1,1,1,1,1,1,1,0,1,0,1,0,1,1])::td77
abbrev td79:List Item:=.code (cd20 [1,1,1,1,1,1,1,0,1,0,1,0,1,0,1])::td78
abbrev td80:List Item:=.code p20_8::td77
abbrev td81:List Item:=.inBlock 2::td80
abbrev td82:List Item:=.inLoop p20_9::td81
abbrev td83:List Item:=.code p20_9::td82
abbrev td84:List Item:=.code (cd20 [1,1,1,1,1,1,1,0,1,0,1,0,1,1,0,1,0,0,1,1,1])::td82
abbrev td85:List Item:=.inBlock 3::td84
abbrev td86:List Item:=.code p20_16::td85
def explore_Runs_r.l0 (a1 : ByteArray) (a2v6v_1m : List (ByteArray × (List explore_edge))) (a2v9vm : List (ByteArray × Int)) (a2v10vm : List (ByteArray × Bool)) (t80 : Int) (t81 : Bool) (t82 : Int) : Option (Int × Bool) :=
  (if (decide (t82 < (((mget a2v6v_1m a1).getD []).length : Int))) = true then (if 0 ≤ t82 ∧ t82 < (((mget a2v6v_1m a1).getD []).length : Int) then (if t81 = true then (explore_Runs_r.l0 a1 a2v6v_1m a2v9vm a2v10vm (addS t80 ((mget a2v9vm ((gt ((mget a2v6v_1m a1).getD []) t82).to)).getD (0 : Int))) true (IntKind.i64.wrap (t82 + 1))) else (if (decide ((addC t80 ((mget a2v9vm ((gt ((mget a2v6v_1m a1).getD []) t82).to)).getD (0 : Int))) > 0)) = true then (explore_Runs_r.l0 a1 a2v6v_1m a2v9vm a2v10vm (addS t80 ((mget a2v9vm ((gt ((mget a2v6v_1m a1).getD []) t82).to)).getD (0 : Int))) true (IntKind.i64.wrap (t82 + 1))) else (if ((mget a2v10vm ((gt ((mget a2v6v_1m a1).getD []) t82).to)).getD false) = true then (explore_Runs_r.l0 a1 a2v6v_1m a2v9vm a2v10vm (addS t80 ((mget a2v9vm ((gt ((mget a2v6v_1m a1).getD []) t82).to)).getD (0 : Int))) true (IntKind.i64.wrap (t82 + 1))) else (explore_Runs_r.l0 a1 a2v6v_1m a2v9vm a2v10vm (addS t80 ((mget a2v9vm ((gt ((mget a2v6v_1m a1).getD []) t82).to)).getD (0 : Int))) false (IntKind.i64.wrap (t82 + 1)))))) else none) else some ((t80,t81)))
 partial_fixpoint
def explore_Runs_r.f (a0 : Int) (a1 a2v2v_0 : ByteArray) (a2v2v_1c0vv_0m a2v2v_1c0vv_1m a2v2v_1c0vv_2m : List (ByteArray × Int)) (a2v2v_1c0vv_3 : Bool) (a2v2v_1c1v : weirlaw14_Net) (a2v6v_0 : List ByteArray) (a2v6v_1m : List (ByteArray × (List explore_edge))) (a2v9vm : List (ByteArray × Int)) (a2v10vm : List (ByteArray × Bool)) : Option (Int × Bool × (List (ByteArray × Int)) × (List (ByteArray × Int)) × (List (ByteArray × Bool))) :=
  (weirlaw14_Net__machine_3.f a1 a2v2v_1c0vv_0m a2v2v_1c0vv_1m a2v2v_1c0vv_2m a2v2v_1c0vv_3 a2v2v_1c1v >>= (fun (t3,t4,t5,t6) => (((if t4 = true then some (1) else some (0)) : Option Int) >>= (fun t29 => (explore_Runs_r.l0 a1 a2v6v_1m a2v9vm a2v10vm t29 false 0 >>= (fun (t44,t45) => some ((0,t5,t6,(mput a2v9vm a1 t44),(mput a2v10vm a1 t45)))))))))
theorem explore_Runs_r.ok (a0 : Int) (a1 a2v2v_0 : ByteArray) (a2v2v_1c0vv_0m a2v2v_1c0vv_1m a2v2v_1c0vv_2m : List (ByteArray × Int)) (a2v2v_1c0vv_3 : Bool) (a2v2v_1c1v : weirlaw14_Net) (a2v6v_0 : List ByteArray) (a2v6v_1m : List (ByteArray × (List explore_edge))) (a2v9vm : List (ByteArray × Int)) (a2v10vm : List (ByteArray × Bool)) (La2 Da2 : Nat) (la2 : List Value) (ba2v2 ba2v2v_1c0 : Nat) (ba2v2v_1c0v ba2v2v_1c0vv_0 : Nat) (ba2v2v_1c0vv_1 ba2v2v_1c0vv_2 ba2v2v_1c1 : Nat) (Aa2v2v_1c1v_0 : Option Addr) (ca2v2v_1c1v_0 : Nat) (Aa2v2v_1c1v_1 : Option Addr) (ca2v2v_1c1v_1 : Nat) (Aa2v2v_1c1v_2 : Option Addr) (ca2v2v_1c1v_2 ba2v6 : Nat) (Aa2v6v_0 : Option Addr) (ca2v6v_0 : Nat) (ba2v6v_1 : Option Nat) (ma2v6v_1 : List (ByteArray × Hh × List explore_edge)) (wa2v6v_2 : Option Nat) (ba2v9 ba2v9v : Nat) (ba2v10 ba2v10v : Nat) (hS0 : St w0 Z (xlp La2 20 (fill (mk 95 [(2,.pointer (some ⟨ba2v2,0,none⟩)),(6,.pointer (some ⟨ba2v6,0,none⟩)),(9,.pointer (some ⟨ba2v9,0,none⟩)),(10,.pointer (some ⟨ba2v10,0,none⟩))]) la2) #[40,41] p20_0 p20_1 Da2 [] 0::xblk ba2v2 32 ([.string a2v2v_0,.func (.func 28) #[] #[.pointer (some ⟨ba2v2v_1c0,0,none⟩),.pointer (some ⟨ba2v2v_1c1,0,none⟩)],.func (.func 31) #[] #[.pointer (some ⟨ba2v2v_1c1,0,none⟩),.pointer (some ⟨ba2v2v_1c0,0,none⟩)],.func (.func 32) #[] #[.pointer (some ⟨ba2v2v_1c0,0,none⟩),.pointer (some ⟨ba2v2v_1c1,0,none⟩)]])::xblk ba2v2v_1c0 33 ([.pointer (some ⟨ba2v2v_1c0v,0,none⟩)])::xblk ba2v2v_1c0v 49 ([.map (some ba2v2v_1c0vv_0),.map (some ba2v2v_1c0vv_1),.map (some ba2v2v_1c0vv_2),.bool a2v2v_1c0vv_3])::xmap ba2v2v_1c0vv_0 (a2v2v_1c0vv_0m.map (kv Value.string (Value.int .i64)))::xmap ba2v2v_1c0vv_1 (a2v2v_1c0vv_1m.map (kv Value.string (Value.int .i64)))::xmap ba2v2v_1c0vv_2 (a2v2v_1c0vv_2m.map (kv Value.string (Value.int .i64)))::xblk ba2v2v_1c1 26 ([.slice Aa2v2v_1c1v_0 a2v2v_1c1v.Next.length ca2v2v_1c1v_0,.slice Aa2v2v_1c1v_1 a2v2v_1c1v.End.length ca2v2v_1c1v_1,.slice Aa2v2v_1c1v_2 a2v2v_1c1v.Value.length ca2v2v_1c1v_2,.int .i64 a2v2v_1c1v.Start])::xblk ba2v6 109 ([.slice Aa2v6v_0 a2v6v_0.length ca2v6v_0,.map ba2v6v_1,.map wa2v6v_2])::xmo ba2v6v_1 (ma2v6v_1.map (kv Value.string eVH))::xblk ba2v9 114 ([.map (some ba2v9v)])::xmap ba2v9v (a2v9vm.map (kv Value.string (Value.int .u64)))::xblk ba2v10 115 ([.map (some ba2v10v)])::xmap ba2v10v (a2v10vm.map (kv Value.string Value.bool))::fs) w) (ha2v2v_1c1v_0 : SlZ (repL (flat (encI .i64)) 1) 1 Z Aa2v2v_1c1v_0 ca2v2v_1c1v_0 a2v2v_1c1v.Next) (ha2v2v_1c1v_1 : SlZ (flat encB) 1 Z Aa2v2v_1c1v_1 ca2v2v_1c1v_1 a2v2v_1c1v.End) (ha2v2v_1c1v_2 : SlZ (flat (encI .i64)) 1 Z Aa2v2v_1c1v_2 ca2v2v_1c1v_2 a2v2v_1c1v.Value) (ha2v6v_0 : SlZ (flat encS) 1 Z Aa2v6v_0 ca2v6v_0 a2v6v_0) (hma2v6v_1 : MZ enc_explore_edge 4 Z ma2v6v_1 a2v6v_1m) {q0 : Int} {q1 : Bool} {q2 q3 : List (ByteArray × Int)} {q4 : List (ByteArray × Bool)} (hp0 : explore_Runs_r.f a0 a1 a2v2v_0 a2v2v_1c0vv_0m a2v2v_1c0vv_1m a2v2v_1c0vv_2m a2v2v_1c0vv_3 a2v2v_1c1v a2v6v_0 a2v6v_1m a2v9vm a2v10vm = some (q0,q1,q2,q3,q4)) :
    Rounds Try.prog La2 20 (fill (mk 95 [(2,.pointer (some ⟨ba2v2,0,none⟩)),(6,.pointer (some ⟨ba2v6,0,none⟩)),(9,.pointer (some ⟨ba2v9,0,none⟩)),(10,.pointer (some ⟨ba2v10,0,none⟩)),(40,.int .i64 a0),(41,.string a1)]) la2).toArray p20_0 p20_1 w (fun e w' => e = .returned (.bool (decide (q0 = 0))) ∧ St w0 Z (xlp La2 20 (fill (mk 95 [(2,.pointer (some ⟨ba2v2,0,none⟩)),(6,.pointer (some ⟨ba2v6,0,none⟩)),(9,.pointer (some ⟨ba2v9,0,none⟩)),(10,.pointer (some ⟨ba2v10,0,none⟩))]) la2) #[40,41] p20_0 p20_1 Da2 [] q0::xblk ba2v2 32 ([.string a2v2v_0,.func (.func 28) #[] #[.pointer (some ⟨ba2v2v_1c0,0,none⟩),.pointer (some ⟨ba2v2v_1c1,0,none⟩)],.func (.func 31) #[] #[.pointer (some ⟨ba2v2v_1c1,0,none⟩),.pointer (some ⟨ba2v2v_1c0,0,none⟩)],.func (.func 32) #[] #[.pointer (some ⟨ba2v2v_1c0,0,none⟩),.pointer (some ⟨ba2v2v_1c1,0,none⟩)]])::xblk ba2v2v_1c0 33 ([.pointer (some ⟨ba2v2v_1c0v,0,none⟩)])::xblk ba2v2v_1c0v 49 ([.map (some ba2v2v_1c0vv_0),.map (some ba2v2v_1c0vv_1),.map (some ba2v2v_1c0vv_2),.bool q1])::xmap ba2v2v_1c0vv_0 (a2v2v_1c0vv_0m.map (kv Value.string (Value.int .i64)))::xmap ba2v2v_1c0vv_1 (q2.map (kv Value.string (Value.int .i64)))::xmap ba2v2v_1c0vv_2 (a2v2v_1c0vv_2m.map (kv Value.string (Value.int .i64)))::xblk ba2v2v_1c1 26 ([.slice Aa2v2v_1c1v_0 a2v2v_1c1v.Next.length ca2v2v_1c1v_0,.slice Aa2v2v_1c1v_1 a2v2v_1c1v.End.length ca2v2v_1c1v_1,.slice Aa2v2v_1c1v_2 a2v2v_1c1v.Value.length ca2v2v_1c1v_2,.int .i64 a2v2v_1c1v.Start])::xblk ba2v6 109 ([.slice Aa2v6v_0 a2v6v_0.length ca2v6v_0,.map ba2v6v_1,.map wa2v6v_2])::xmo ba2v6v_1 (ma2v6v_1.map (kv Value.string eVH))::xblk ba2v9 114 ([.map (some ba2v9v)])::xmap ba2v9v (q3.map (kv Value.string (Value.int .u64)))::xblk ba2v10 115 ([.map (some ba2v10v)])::xmap ba2v10v (q4.map (kv Value.string Value.bool))::fs) w'):=by
  refine rounds_abs ?_; intro R hR
  unfold explore_Runs_r.f at hp0
  refine rounds_of_runs ?_
  refine sR 3 [.beginRound,.code p20_1] ?_
  refine r_begin hS0 ?_
  intro w1 hS2
  refine sR 10 (iR p20_2 1 9::td79) ?_
  refine rL1 30 (.tmp 43) 3 (hS2.blk 1 rfl) ?_
  refine sR 1 (iR p20_2 3 7::td79) ?_
  obtain ⟨⟨t3,t4,t5,t6⟩,hr7,hp8⟩:=bind_some' hp0
  try dsimp only at hp8
  have hS12:=hS2.pick7
  have hS13:=hS12.pick7
  have hS14:=hS13.pick7
  have hS15:=hS14.pick7
  have hS16:=hS15.pick7
  have hS17:=hS16.pick7
  refine rC (weirlaw14_Net__machine_3.ok hr7 hS17 ha2v2v_1c1v_0 ha2v2v_1c1v_1 ha2v2v_1c1v_2) ?_
  rintro _ w18 ⟨rfl,hS19⟩
  refine ⟨_,rfl,?_⟩
  refine sR 3 (.inRegion (opsOf p20_2) [7,8,9]::td79) ?_
  refine rA 84 (.agg (enc_api_Final (⟨0,(Vector.replicate 48 0)⟩ : api_Final)).toArray) (enc_api_Final (⟨0,(Vector.replicate 48 0)⟩ : api_Final)) hS19 ?_
  intro b20 w21 hS22
  refine r_store (c:=p20_2) (i:=8) (d:=none) (ty:=0) (t:=84) (x:=(.tmp 15)) (y:=(.tmp 47)) (b:=b20) (o:=0) (e:=84) (cs:=enc_api_Final (⟨0,(Vector.replicate 48 0)⟩ : api_Final)) (v:=.agg (enc_api_Final t3).toArray) (vs:=enc_api_Final t3) (cs':=enc_api_Final t3) hS22 (by kernel_rfl) (by kernel_rfl) (by kernel_rfl) (by kernel_rfl) (by kernel_rfl) (lenK (len_api_Final _) (by kernel_rfl)) (one_api_Final _) (by simp only [len_api_Final,List.length_cons,List.length_nil,List.length_append]; omega) (over_all ((len_api_Final _).trans (len_api_Final _).symm)) ?_
  intro w24 hS25
  refine sR 6 (.code (cd20 [1,1,1,1,1,1,1,0,1,0,1,0,1,0,1,1])::td78) ?_
  obtain ⟨v26,hv27,hp28⟩:=bind_some' hp8
  have J32 : ∀ (t29 : Int) (he34 : t29 = v26) (l33 : List Value) (w30 : World) (hS31 : St w0 Z (xblk ba2v6 109 ([.slice Aa2v6v_0 a2v6v_0.length ca2v6v_0,.map ba2v6v_1,.map wa2v6v_2])::xmo ba2v6v_1 (ma2v6v_1.map (kv Value.string eVH))::xblk ba2v9 114 ([.map (some ba2v9v)])::xmap ba2v9v (a2v9vm.map (kv Value.string (Value.int .u64)))::xblk ba2v10 115 ([.map (some ba2v10v)])::xmap ba2v10v (a2v10vm.map (kv Value.string Value.bool))::xlb La2 20 (fill (mk 95 [(2,.pointer (some ⟨ba2v2,0,none⟩)),(6,.pointer (some ⟨ba2v6,0,none⟩)),(9,.pointer (some ⟨ba2v9,0,none⟩)),(10,.pointer (some ⟨ba2v10,0,none⟩))]) la2) #[40,41] p20_0 p20_1 Da2::xblk ba2v2 32 ([.string a2v2v_0,.func (.func 28) #[] #[.pointer (some ⟨ba2v2v_1c0,0,none⟩),.pointer (some ⟨ba2v2v_1c1,0,none⟩)],.func (.func 31) #[] #[.pointer (some ⟨ba2v2v_1c1,0,none⟩),.pointer (some ⟨ba2v2v_1c0,0,none⟩)],.func (.func 32) #[] #[.pointer (some ⟨ba2v2v_1c0,0,none⟩),.pointer (some ⟨ba2v2v_1c1,0,none⟩)]])::xblk ba2v2v_1c0 33 ([.pointer (some ⟨ba2v2v_1c0v,0,none⟩)])::xblk ba2v2v_1c0v 49 ([.map (some ba2v2v_1c0vv_0),.map (some ba2v2v_1c0vv_1),.map (some ba2v2v_1c0vv_2),.bool t5])::xmap ba2v2v_1c0vv_0 (a2v2v_1c0vv_0m.map (kv Value.string (Value.int .i64)))::xmap ba2v2v_1c0vv_1 (t6.map (kv Value.string (Value.int .i64)))::xmap ba2v2v_1c0vv_2 (a2v2v_1c0vv_2m.map (kv Value.string (Value.int .i64)))::xblk ba2v2v_1c1 26 ([.slice Aa2v2v_1c1v_0 a2v2v_1c1v.Next.length ca2v2v_1c1v_0,.slice Aa2v2v_1c1v_1 a2v2v_1c1v.End.length ca2v2v_1c1v_1,.slice Aa2v2v_1c1v_2 a2v2v_1c1v.Value.length ca2v2v_1c1v_2,.int .i64 a2v2v_1c1v.Start])::fs) w30),Runs Try.prog ⟨20,[],.rd La2⟩ td78 (fill (mk 95 [(6,.pointer (some ⟨ba2v6,0,none⟩)),(9,.pointer (some ⟨ba2v9,0,none⟩)),(10,.pointer (some ⟨ba2v10,0,none⟩)),(12,.string a1),(13,.int .u64 t29),(14,.bool false)]) l33) w30 R:=by
   intro t29 he34 l33 w30 hS31
   subst he34
   try dsimp only at hp28
   refine sR 4 (iR p20_6 1 5::.code p20_7::td80) ?_
   refine rL1 107 (.tmp 50) 1 (hS31.blk 0 rfl) ?_
   refine sR 1 (.inRegion (opsOf p20_6) [3,4,5]::.code p20_7::td80) ?_
   obtain ⟨A35,c36,hv37,hq38,hs39⟩:=MZ.get hma2v6v_1 a1
   refine rV (.lookup 107 (.tmp 51) (.tmp 52) false) (.slice A35 ((mget a2v6v_1m a1).getD []).length c36) (fun o ho _ => x_lookupZO1 (eK:=Value.string) (dk:=.string) (b:=ba2v6v_1) (t:=107) (kt:=9) (et:=120) (mh:=ma2v6v_1) (kk:=a1) (hS31.at 1 rfl) hv37 key_str (by kernel_rfl) (by kernel_rfl) (by kernel_rfl) (by kernel_rfl) (by kernel_rfl) ho) ?_
   refine sR 5 td83 ?_
   obtain ⟨v41,hv42,hp43⟩:=bind_some' hp28
   have J48 : ∀ (t44 : Int) (t45 : Bool) (he50 : (t44,t45) = v41) (l49 : List Value) (w46 : World) (hS47 : St w0 Z (xblk ba2v9 114 ([.map (some ba2v9v)])::xmap ba2v9v (a2v9vm.map (kv Value.string (Value.int .u64)))::xblk ba2v10 115 ([.map (some ba2v10v)])::xmap ba2v10v (a2v10vm.map (kv Value.string Value.bool))::xlb La2 20 (fill (mk 95 [(2,.pointer (some ⟨ba2v2,0,none⟩)),(6,.pointer (some ⟨ba2v6,0,none⟩)),(9,.pointer (some ⟨ba2v9,0,none⟩)),(10,.pointer (some ⟨ba2v10,0,none⟩))]) la2) #[40,41] p20_0 p20_1 Da2::xblk ba2v2 32 ([.string a2v2v_0,.func (.func 28) #[] #[.pointer (some ⟨ba2v2v_1c0,0,none⟩),.pointer (some ⟨ba2v2v_1c1,0,none⟩)],.func (.func 31) #[] #[.pointer (some ⟨ba2v2v_1c1,0,none⟩),.pointer (some ⟨ba2v2v_1c0,0,none⟩)],.func (.func 32) #[] #[.pointer (some ⟨ba2v2v_1c0,0,none⟩),.pointer (some ⟨ba2v2v_1c1,0,none⟩)]])::xblk ba2v2v_1c0 33 ([.pointer (some ⟨ba2v2v_1c0v,0,none⟩)])::xblk ba2v2v_1c0v 49 ([.map (some ba2v2v_1c0vv_0),.map (some ba2v2v_1c0vv_1),.map (some ba2v2v_1c0vv_2),.bool t5])::xmap ba2v2v_1c0vv_0 (a2v2v_1c0vv_0m.map (kv Value.string (Value.int .i64)))::xmap ba2v2v_1c0vv_1 (t6.map (kv Value.string (Value.int .i64)))::xmap ba2v2v_1c0vv_2 (a2v2v_1c0vv_2m.map (kv Value.string (Value.int .i64)))::xblk ba2v2v_1c1 26 ([.slice Aa2v2v_1c1v_0 a2v2v_1c1v.Next.length ca2v2v_1c1v_0,.slice Aa2v2v_1c1v_1 a2v2v_1c1v.End.length ca2v2v_1c1v_1,.slice Aa2v2v_1c1v_2 a2v2v_1c1v.Value.length ca2v2v_1c1v_2,.int .i64 a2v2v_1c1v.Start])::xblk ba2v6 109 ([.slice Aa2v6v_0 a2v6v_0.length ca2v6v_0,.map ba2v6v_1,.map wa2v6v_2])::xmo ba2v6v_1 (ma2v6v_1.map (kv Value.string eVH))::fs) w46),Runs Try.prog ⟨20,[],.rd La2⟩ td80 (fill (mk 95 [(9,.pointer (some ⟨ba2v9,0,none⟩)),(10,.pointer (some ⟨ba2v10,0,none⟩)),(12,.string a1),(13,.int .u64 t44),(14,.bool t45)]) l49) w46 R:=by
    intro t44 t45 he50 l49 w46 hS47
    subst he50
    try dsimp only at hp43
    have hS51:=hS47.pick3
    have hS52:=hS51.pick3
    have hS53:=hS52.pick3
    have hS54:=hS53.pick3
    generalize hg56 : (xlb La2 20 (fill (mk 95 [(2,.pointer (some ⟨ba2v2,0,none⟩)),(6,.pointer (some ⟨ba2v6,0,none⟩)),(9,.pointer (some ⟨ba2v9,0,none⟩)),(10,.pointer (some ⟨ba2v10,0,none⟩))]) la2) #[40,41] p20_0 p20_1 Da2::xblk ba2v2 32 ([.string a2v2v_0,.func (.func 28) #[] #[.pointer (some ⟨ba2v2v_1c0,0,none⟩),.pointer (some ⟨ba2v2v_1c1,0,none⟩)],.func (.func 31) #[] #[.pointer (some ⟨ba2v2v_1c1,0,none⟩),.pointer (some ⟨ba2v2v_1c0,0,none⟩)],.func (.func 32) #[] #[.pointer (some ⟨ba2v2v_1c0,0,none⟩),.pointer (some ⟨ba2v2v_1c1,0,none⟩)]])::xblk ba2v2v_1c0 33 ([.pointer (some ⟨ba2v2v_1c0v,0,none⟩)])::xblk ba2v2v_1c0v 49 ([.map (some ba2v2v_1c0vv_0),.map (some ba2v2v_1c0vv_1),.map (some ba2v2v_1c0vv_2),.bool t5])::xmap ba2v2v_1c0vv_0 (a2v2v_1c0vv_0m.map (kv Value.string (Value.int .i64)))::xmap ba2v2v_1c0vv_1 (t6.map (kv Value.string (Value.int .i64)))::xmap ba2v2v_1c0vv_2 (a2v2v_1c0vv_2m.map (kv Value.string (Value.int .i64)))::xblk ba2v2v_1c1 26 ([.slice Aa2v2v_1c1v_0 a2v2v_1c1v.Next.length ca2v2v_1c1v_0,.slice Aa2v2v_1c1v_1 a2v2v_1c1v.End.length ca2v2v_1c1v_1,.slice Aa2v2v_1c1v_2 a2v2v_1c1v.Value.length ca2v2v_1c1v_2,.int .i64 a2v2v_1c1v.Start])::xblk ba2v6 109 ([.slice Aa2v6v_0 a2v6v_0.length ca2v6v_0,.map ba2v6v_1,.map wa2v6v_2])::xmo ba2v6v_1 (ma2v6v_1.map (kv Value.string eVH))::fs) = gs55 at hS54
    refine r_drawnP (S:=Option Unit × Option Unit) (dn:=(fun (st : Option Unit × Option Unit) k => [st.1.isSome,st.2.isSome].getD k true)) (C:=(fun st w' => match st with | (none,none) => St w0 Z (xblk ba2v9 114 ([.map (some ba2v9v)])::xmap ba2v9v (a2v9vm.map (kv Value.string (Value.int .u64)))::xblk ba2v10 115 ([.map (some ba2v10v)])::xmap ba2v10v (a2v10vm.map (kv Value.string Value.bool))::gs55) w' | (none,some _) => False | (some _,none) => St w0 Z (xmap ba2v9v ((mput a2v9vm a1 t44).map (kv Value.string (Value.int .u64)))::xblk ba2v9 114 ([.map (some ba2v9v)])::xblk ba2v10 115 ([.map (some ba2v10v)])::xmap ba2v10v (a2v10vm.map (kv Value.string Value.bool))::gs55) w' | (some _,some _) => St w0 Z (xmap ba2v10v ((mput a2v10vm a1 t45).map (kv Value.string Value.bool))::xmap ba2v9v ((mput a2v9vm a1 t44).map (kv Value.string (Value.int .u64)))::xblk ba2v9 114 ([.map (some ba2v9v)])::xblk ba2v10 115 ([.map (some ba2v10v)])::gs55) w')) (v:=(fun st => match st with | (none,none) => [.map (some ba2v9v),.string a1,.map (some ba2v10v),.string a1,.int .u64 t44,.bool t45,undef,undef] | (none,some _) => [.map (some ba2v9v),.string a1,.map (some ba2v10v),.string a1,.int .u64 t44,.bool t45,undef,undef] | (some _,none) => [.map (some ba2v9v),.string a1,.map (some ba2v10v),.string a1,.int .u64 t44,.bool t45,undef,undef] | (some _,some _) => [.map (some ba2v9v),.string a1,.map (some ba2v10v),.string a1,.int .u64 t44,.bool t45,undef,undef])) (c:=p20_8) (id:=21) (none,none) 6 8 [6,7] [[],[],[],[],[],[],[],[0]] [[0,1],[0,1],[1],[1],[0,1],[1],[1],[]] [] [true,true,true,true,true,true,true,true] (by kernel_rfl) (by kernel_rfl) (by kernel_rfl) (by kernel_rfl) (by kernel_rfl) (by kernel_rfl) (by kernel_rfl) (by kernel_rfl) (by kernel_rfl) (fun k hk => match k,hk with | 0,_ => rfl | 1,_ => rfl | k + 2,hk => absurd hk (by simp)) hS54.drew ?_ (fun k hk => match k,hk with | 0,_ => rfl | 1,_ => rfl | k + 2,hk => absurd hk (by simp)) ?_ ?_ ?_
    ·intro i hi st w hC hd
     match i,hi with
     | 0,_ => (show _ = _; kernel_rfl)
     | 1,_ => (show _ = _; kernel_rfl)
     | 2,_ => (show _ = _; kernel_rfl)
     | 3,_ => (show _ = _; kernel_rfl)
     | 4,_ => (show _ = _; kernel_rfl)
     | 5,_ => (show _ = _; kernel_rfl)
     | 6,_ => (show _ = _; kernel_rfl)
     | 7,_ => (show _ = _; kernel_rfl)
     | i + 8,hi => exact absurd hi (by omega)
    ·intro i hi he st w hC hd hu
     match i,hi,he with
     | 0,_,_ =>
      rcases st with ⟨_ | _,_ | _⟩
      ·dsimp only at hC
       exact ⟨fun _ => does_run (x_load (t:=114) (x:=(.tmp 9)) (p:=⟨ba2v9,0,none⟩) (v:=.map (some ba2v9v)) (by kernel_rfl) (loads_at 0 (hC.blk 0 rfl) (by kernel_rfl) (by kernel_rfl)) (by kernel_rfl)) rfl hC,fun h => absurd h (by decide)⟩
      ·exact False.elim hC
      ·exact Bool.noConfusion (hu 0 (by decide))
      ·exact Bool.noConfusion (hu 0 (by decide))
     | 1,_,_ =>
      rcases st with ⟨_ | _,_ | _⟩
      ·dsimp only at hC
       exact dG (.string a1) hC
      ·exact False.elim hC
      ·exact Bool.noConfusion (hu 0 (by decide))
      ·exact Bool.noConfusion (hu 0 (by decide))
     | 2,_,_ =>
      rcases st with ⟨_ | _,_ | _⟩
      ·dsimp only at hC
       exact ⟨fun _ => does_run (x_load (t:=115) (x:=(.tmp 10)) (p:=⟨ba2v10,0,none⟩) (v:=.map (some ba2v10v)) (by kernel_rfl) (loads_at 0 (hC.blk 2 rfl) (by kernel_rfl) (by kernel_rfl)) (by kernel_rfl)) rfl hC,fun h => absurd h (by decide)⟩
      ·exact False.elim hC
      ·dsimp only at hC
       exact ⟨fun _ => does_run (x_load (t:=115) (x:=(.tmp 10)) (p:=⟨ba2v10,0,none⟩) (v:=.map (some ba2v10v)) (by kernel_rfl) (loads_at 0 (hC.blk 2 rfl) (by kernel_rfl) (by kernel_rfl)) (by kernel_rfl)) rfl hC,fun h => absurd h (by decide)⟩
      ·exact Bool.noConfusion (hu 1 (by decide))
     | 3,_,_ =>
      rcases st with ⟨_ | _,_ | _⟩
      ·dsimp only at hC
       exact dG (.string a1) hC
      ·exact False.elim hC
      ·dsimp only at hC
       exact dG (.string a1) hC
      ·exact Bool.noConfusion (hu 1 (by decide))
     | 4,_,_ =>
      rcases st with ⟨_ | _,_ | _⟩
      ·dsimp only at hC
       exact dG (.int .u64 t44) hC
      ·exact False.elim hC
      ·exact Bool.noConfusion (hu 0 (by decide))
      ·exact Bool.noConfusion (hu 0 (by decide))
     | 5,_,_ =>
      rcases st with ⟨_ | _,_ | _⟩
      ·dsimp only at hC
       exact dG (.bool t45) hC
      ·exact False.elim hC
      ·dsimp only at hC
       exact dG (.bool t45) hC
      ·exact Bool.noConfusion (hu 1 (by decide))
     | 6,_,he => exact absurd he (by decide)
     | 7,_,he => exact absurd he (by decide)
     | i + 8,hi,_ => exact absurd hi (by omega)
    ·intro k hk st w hC hr hm
     match k,hk with
     | 0,_ =>
      rcases st with ⟨_ | _,_ | _⟩
      ·dsimp only at hC
       have hC:=hC.pick1
       refine does_mapUpdate (eK:=Value.string) (eV:=(Value.int .u64)) (dk:=.string) (b:=ba2v9v) (t:=114) (kt:=9) (et:=63) (x:=(.tmp 81)) (y:=(.tmp 82)) (z:=(.tmp 85)) (m:=a2v9vm) (kk:=a1) (v:=t44) hC (by kernel_rfl) (by kernel_rfl) key_str (by kernel_rfl) (by kernel_rfl) (by kernel_rfl) (by kernel_rfl) (by kernel_rfl) ?_
       intro w2 h2
       have h2:=h2.pick3
       have h2:=h2.pick3
       have h2:=h2.pick3
       have h2:=h2.pick3
       refine ⟨(some (),none),rfl,?_,?_,.inl rfl,h2⟩
       ·intro m hne; match m,hne with
        | 0,hne => exact absurd rfl hne
        | 1,hne => exact rfl
        | m + 2,_ => exact rfl
       ·intro j hj; match j,hj with
        | 0,hj => exact rfl
        | 1,hj => exact rfl
        | 2,hj => exact rfl
        | 3,hj => exact rfl
        | 4,hj => exact rfl
        | 5,hj => exact rfl
        | 6,hj => exact absurd (by decide) hj
        | 7,hj => exact absurd (by decide) hj
        | j + 8,_ => exact rfl
      ·exact False.elim hC
      ·exact Bool.noConfusion hr
      ·exact Bool.noConfusion hr
     | 1,_ =>
      rcases st with ⟨_ | _,_ | _⟩
      ·exact Bool.noConfusion (hm 0 (by decide))
      ·exact False.elim hC
      ·dsimp only at hC
       have hC:=hC.pick3
       refine does_mapUpdate (eK:=Value.string) (eV:=Value.bool) (dk:=.string) (b:=ba2v10v) (t:=115) (kt:=9) (et:=4) (x:=(.tmp 83)) (y:=(.tmp 84)) (z:=(.tmp 86)) (m:=a2v10vm) (kk:=a1) (v:=t45) hC (by kernel_rfl) (by kernel_rfl) key_str (by kernel_rfl) (by kernel_rfl) (by kernel_rfl) (by kernel_rfl) (by kernel_rfl) ?_
       intro w2 h2
       have h2:=h2.pick3
       have h2:=h2.pick3
       have h2:=h2.pick3
       have h2:=h2.pick3
       refine ⟨(some (),some ()),rfl,?_,?_,.inl rfl,h2⟩
       ·intro m hne; match m,hne with
        | 0,hne => exact rfl
        | 1,hne => exact absurd rfl hne
        | m + 2,_ => exact rfl
       ·intro j hj; match j,hj with
        | 0,hj => exact rfl
        | 1,hj => exact rfl
        | 2,hj => exact rfl
        | 3,hj => exact rfl
        | 4,hj => exact rfl
        | 5,hj => exact rfl
        | 6,hj => exact rfl
        | 7,hj => exact absurd (by decide) hj
        | j + 8,_ => exact rfl
      ·exact Bool.noConfusion hr
     | k + 2,hk => exact absurd hk (by simp)
    intro st60 w57 hS58 hr59
    rcases st60 with ⟨_ | _,_ | _⟩
    ·exact Bool.noConfusion (hr59 0 (Nat.lt_of_sub_eq_succ rfl))
    ·exact Bool.noConfusion (hr59 0 (Nat.lt_of_sub_eq_succ rfl))
    ·exact Bool.noConfusion (hr59 1 (Nat.lt_of_sub_eq_succ rfl))
    replace hS58 : St w0 Z (xmap ba2v10v ((mput a2v10vm a1 t45).map (kv Value.string Value.bool))::xmap ba2v9v ((mput a2v9vm a1 t44).map (kv Value.string (Value.int .u64)))::xblk ba2v9 114 ([.map (some ba2v9v)])::xblk ba2v10 115 ([.map (some ba2v10v)])::gs55) w57:=hS58
    subst hg56
    refine sR 1 [] ?_
    have hS61:=hS58.pick4
    refine r_rend hS61 [] ?_
    intro w62 hS63
    have hS64 : St w0 Z (xlp La2 20 (fill (mk 95 [(2,.pointer (some ⟨ba2v2,0,none⟩)),(6,.pointer (some ⟨ba2v6,0,none⟩)),(9,.pointer (some ⟨ba2v9,0,none⟩)),(10,.pointer (some ⟨ba2v10,0,none⟩))]) la2) #[40,41] p20_0 p20_1 Da2 [] 0::xmap ba2v10v ((mput a2v10vm a1 t45).map (kv Value.string Value.bool))::xmap ba2v9v ((mput a2v9vm a1 t44).map (kv Value.string (Value.int .u64)))::xblk ba2v9 114 ([.map (some ba2v9v)])::xblk ba2v10 115 ([.map (some ba2v10v)])::xblk ba2v2 32 ([.string a2v2v_0,.func (.func 28) #[] #[.pointer (some ⟨ba2v2v_1c0,0,none⟩),.pointer (some ⟨ba2v2v_1c1,0,none⟩)],.func (.func 31) #[] #[.pointer (some ⟨ba2v2v_1c1,0,none⟩),.pointer (some ⟨ba2v2v_1c0,0,none⟩)],.func (.func 32) #[] #[.pointer (some ⟨ba2v2v_1c0,0,none⟩),.pointer (some ⟨ba2v2v_1c1,0,none⟩)]])::xblk ba2v2v_1c0 33 ([.pointer (some ⟨ba2v2v_1c0v,0,none⟩)])::xblk ba2v2v_1c0v 49 ([.map (some ba2v2v_1c0vv_0),.map (some ba2v2v_1c0vv_1),.map (some ba2v2v_1c0vv_2),.bool t5])::xmap ba2v2v_1c0vv_0 (a2v2v_1c0vv_0m.map (kv Value.string (Value.int .i64)))::xmap ba2v2v_1c0vv_1 (t6.map (kv Value.string (Value.int .i64)))::xmap ba2v2v_1c0vv_2 (a2v2v_1c0vv_2m.map (kv Value.string (Value.int .i64)))::xblk ba2v2v_1c1 26 ([.slice Aa2v2v_1c1v_0 a2v2v_1c1v.Next.length ca2v2v_1c1v_0,.slice Aa2v2v_1c1v_1 a2v2v_1c1v.End.length ca2v2v_1c1v_1,.slice Aa2v2v_1c1v_2 a2v2v_1c1v.Value.length ca2v2v_1c1v_2,.int .i64 a2v2v_1c1v.Start])::xblk ba2v6 109 ([.slice Aa2v6v_0 a2v6v_0.length ca2v6v_0,.map ba2v6v_1,.map wa2v6v_2])::xmo ba2v6v_1 (ma2v6v_1.map (kv Value.string eVH))::fs) w62:=hS63
    have hS65:=hS64.pick1
    have hS66:=hS65.pick4
    have hS67:=hS66.pick3
    have hS68:=hS67.pick4
    have hS69:=hS68.pick13
    have hS70:=hS69.pick13
    have hS71:=hS70.pick13
    have hS72:=hS71.pick13
    have hS73:=hS72.pick13
    have hS74:=hS73.pick13
    have hS75:=hS74.pick13
    have hS76:=hS75.pick13
    have hS77:=hS76.pick13
    have hS78:=hS77.pick13
    cases Option.some.inj hp43
    exact hR _ _ ⟨rfl,hS78⟩
   have L91 : ∀ (t80 : Int) (t81 : Bool) (t82 : Int) (e86 : (Int × Bool)),explore_Runs_r.l0 a1 a2v6v_1m a2v9vm a2v10vm t80 t81 t82 = some e86 → e86 = v41 → ∀ (l85 : List Value) (w83 : World) (hS84 : St w0 Z (xblk ba2v9 114 ([.map (some ba2v9v)])::xmap ba2v9v (a2v9vm.map (kv Value.string (Value.int .u64)))::xblk ba2v10 115 ([.map (some ba2v10v)])::xmap ba2v10v (a2v10vm.map (kv Value.string Value.bool))::xlb La2 20 (fill (mk 95 [(2,.pointer (some ⟨ba2v2,0,none⟩)),(6,.pointer (some ⟨ba2v6,0,none⟩)),(9,.pointer (some ⟨ba2v9,0,none⟩)),(10,.pointer (some ⟨ba2v10,0,none⟩))]) la2) #[40,41] p20_0 p20_1 Da2::xblk ba2v2 32 ([.string a2v2v_0,.func (.func 28) #[] #[.pointer (some ⟨ba2v2v_1c0,0,none⟩),.pointer (some ⟨ba2v2v_1c1,0,none⟩)],.func (.func 31) #[] #[.pointer (some ⟨ba2v2v_1c1,0,none⟩),.pointer (some ⟨ba2v2v_1c0,0,none⟩)],.func (.func 32) #[] #[.pointer (some ⟨ba2v2v_1c0,0,none⟩),.pointer (some ⟨ba2v2v_1c1,0,none⟩)]])::xblk ba2v2v_1c0 33 ([.pointer (some ⟨ba2v2v_1c0v,0,none⟩)])::xblk ba2v2v_1c0v 49 ([.map (some ba2v2v_1c0vv_0),.map (some ba2v2v_1c0vv_1),.map (some ba2v2v_1c0vv_2),.bool t5])::xmap ba2v2v_1c0vv_0 (a2v2v_1c0vv_0m.map (kv Value.string (Value.int .i64)))::xmap ba2v2v_1c0vv_1 (t6.map (kv Value.string (Value.int .i64)))::xmap ba2v2v_1c0vv_2 (a2v2v_1c0vv_2m.map (kv Value.string (Value.int .i64)))::xblk ba2v2v_1c1 26 ([.slice Aa2v2v_1c1v_0 a2v2v_1c1v.Next.length ca2v2v_1c1v_0,.slice Aa2v2v_1c1v_1 a2v2v_1c1v.End.length ca2v2v_1c1v_1,.slice Aa2v2v_1c1v_2 a2v2v_1c1v.Value.length ca2v2v_1c1v_2,.int .i64 a2v2v_1c1v.Start])::xblk ba2v6 109 ([.slice Aa2v6v_0 a2v6v_0.length ca2v6v_0,.map ba2v6v_1,.map wa2v6v_2])::xmo ba2v6v_1 (ma2v6v_1.map (kv Value.string eVH))::fs) w83),Runs Try.prog ⟨20,[],.rd La2⟩ td83 (fill (mk 95 [(9,.pointer (some ⟨ba2v9,0,none⟩)),(10,.pointer (some ⟨ba2v10,0,none⟩)),(12,.string a1),(13,.int .u64 t80),(14,.bool t81),(53,.slice A35 ((mget a2v6v_1m a1).getD []).length c36),(54,.int .i64 (((mget a2v6v_1m a1).getD []).length : Int)),(55,.int .i64 t82)]) l85) w83 R:=by
    refine explore_Runs_r.l0.partial_correctness a1 a2v6v_1m a2v9vm a2v10vm (fun t80 t81 t82 e86 => e86 = v41 → ∀ (l85 : List Value) (w83 : World) (hS84 : St w0 Z (xblk ba2v9 114 ([.map (some ba2v9v)])::xmap ba2v9v (a2v9vm.map (kv Value.string (Value.int .u64)))::xblk ba2v10 115 ([.map (some ba2v10v)])::xmap ba2v10v (a2v10vm.map (kv Value.string Value.bool))::xlb La2 20 (fill (mk 95 [(2,.pointer (some ⟨ba2v2,0,none⟩)),(6,.pointer (some ⟨ba2v6,0,none⟩)),(9,.pointer (some ⟨ba2v9,0,none⟩)),(10,.pointer (some ⟨ba2v10,0,none⟩))]) la2) #[40,41] p20_0 p20_1 Da2::xblk ba2v2 32 ([.string a2v2v_0,.func (.func 28) #[] #[.pointer (some ⟨ba2v2v_1c0,0,none⟩),.pointer (some ⟨ba2v2v_1c1,0,none⟩)],.func (.func 31) #[] #[.pointer (some ⟨ba2v2v_1c1,0,none⟩),.pointer (some ⟨ba2v2v_1c0,0,none⟩)],.func (.func 32) #[] #[.pointer (some ⟨ba2v2v_1c0,0,none⟩),.pointer (some ⟨ba2v2v_1c1,0,none⟩)]])::xblk ba2v2v_1c0 33 ([.pointer (some ⟨ba2v2v_1c0v,0,none⟩)])::xblk ba2v2v_1c0v 49 ([.map (some ba2v2v_1c0vv_0),.map (some ba2v2v_1c0vv_1),.map (some ba2v2v_1c0vv_2),.bool t5])::xmap ba2v2v_1c0vv_0 (a2v2v_1c0vv_0m.map (kv Value.string (Value.int .i64)))::xmap ba2v2v_1c0vv_1 (t6.map (kv Value.string (Value.int .i64)))::xmap ba2v2v_1c0vv_2 (a2v2v_1c0vv_2m.map (kv Value.string (Value.int .i64)))::xblk ba2v2v_1c1 26 ([.slice Aa2v2v_1c1v_0 a2v2v_1c1v.Next.length ca2v2v_1c1v_0,.slice Aa2v2v_1c1v_1 a2v2v_1c1v.End.length ca2v2v_1c1v_1,.slice Aa2v2v_1c1v_2 a2v2v_1c1v.Value.length ca2v2v_1c1v_2,.int .i64 a2v2v_1c1v.Start])::xblk ba2v6 109 ([.slice Aa2v6v_0 a2v6v_0.length ca2v6v_0,.map ba2v6v_1,.map wa2v6v_2])::xmo ba2v6v_1 (ma2v6v_1.map (kv Value.string eVH))::fs) w83),Runs Try.prog ⟨20,[],.rd La2⟩ td83 (fill (mk 95 [(9,.pointer (some ⟨ba2v9,0,none⟩)),(10,.pointer (some ⟨ba2v10,0,none⟩)),(12,.string a1),(13,.int .u64 t80),(14,.bool t81),(53,.slice A35 ((mget a2v6v_1m a1).getD []).length c36),(54,.int .i64 (((mget a2v6v_1m a1).getD []).length : Int)),(55,.int .i64 t82)]) l85) w83 R) ?_
    intro rec90 ih89 t80 t81 t82 e86 hb88 he87 l85 w83 hS84
    refine sI 3 (.inRegion (opsOf (cd20 [1,1,1,1,1,1,1,0,1,0,1,0,1,1,0,1,0,0,0])) []::.code (cd20 [1,1,1,1,1,1,1,0,1,0,1,0,1,1,0,1,0,0,1])::td82) 56 hb88 (fun hp94 => ?_) fun hp129 => ?_
    ·refine sR 8 (iR p20_12 0 4::.code (cd20 [1,1,1,1,1,1,1,0,1,0,1,0,1,1,0,1,0,0,1,1,0,0,1])::td85) ?_
     obtain ⟨g95,hp96⟩:=ite_some hp94
     obtain ⟨b97,p98,hA99,hc100⟩:=hs39.atF g95.1 g95.2
     refine r_indexAddr (c:=p20_12) (i:=0) (d:=(some 57)) (ty:=0) (t:=120) (e:=122) (n:=((mget a2v6v_1m a1).getD []).length) (cp:=c36) (sz:=4) (kk:=.i64) (x:=(.tmp 53)) (y:=(.tmp 55)) (b:=b97) (o':=p98) (j:=t82) (by kernel_rfl) (by kernel_rfl) (slv (by kernel_rfl) hA99) (by kernel_rfl) (by kernel_rfl) (by kernel_rfl) g95.1 g95.2 ?_
     refine rLa 122 (.tmp 57) (hc100.cells hS84) ?_
     refine rA 122 (.agg (enc_explore_edge (⟨⟨0,0,0⟩,(⟨#[]⟩ : ByteArray)⟩ : explore_edge)).toArray) (enc_explore_edge (⟨⟨0,0,0⟩,(⟨#[]⟩ : ByteArray)⟩ : explore_edge)) hS84 ?_
     intro b101 w102 hS103
     refine rSA 122 (.tmp 18) (.tmp 58) (enc_explore_edge (gt ((mget a2v6v_1m a1).getD []) t82)) hS103 (one_explore_edge _) ?_
     intro w105 hS106
     refine sR 4 (iR p20_15 1 10::td86) ?_
     refine rL1 114 (.tmp 9) 0 (hS106.blk 1 rfl) ?_
     refine sR 1 (iR p20_15 3 8::td86) ?_
     refine rL1 9 (.tmp 62) 3 (hS106.blk 0 rfl) ?_
     refine rV (.lookup 114 (.tmp 61) (.tmp 63) false) (.int .u64 ((mget a2v9vm ((gt ((mget a2v6v_1m a1).getD []) t82).to)).getD (0 : Int))) (fun o ho _ => x_lookup1 (eK:=Value.string) (eV:=(Value.int .u64)) (dk:=.string) (b:=ba2v9v) (t:=114) (kt:=9) (et:=63) (m:=a2v9vm) (kk:=((gt ((mget a2v6v_1m a1).getD []) t82).to)) (z:=(0 : Int)) (hS106.at 2 rfl) key_str (by kernel_rfl) (by kernel_rfl) (by kernel_rfl) (by kernel_rfl) (by kernel_rfl) ho) ?_
     refine sR 7 td86 ?_
     refine r_quiet hS106 (c:=p20_16) (id:=19) (by kernel_rfl) (by kernel_rfl) (by kernel_rfl) (is:=[0,1,2,3,4,5,6,7,8,9,10,11,12,13]) (by kernel_rfl) ?_
     refine qR 3 (rg 3 11) ?_
     cases t81
     ·have hp107:=ite_f hp96 rfl
      refine qI 2 (rg 5 9) 72 hp107 (fun hp110 => ?_) fun hp114 => ?_
      ·refine qR 9 [] ?_
       refine Qs.nil ?_
       intro w111 hS112
       refine sR 5 td82 ?_
       have hS113:=hS112.drop
       refine sR 1 td83 ?_
       exact rF _ (ih89 (addS t80 ((mget a2v9vm ((gt ((mget a2v6v_1m a1).getD []) t82).to)).getD (0 : Int))) true (IntKind.i64.wrap (t82 + 1)) _ hp110 he87 _ _ hS113)
      refine qR 2 (rg 7 7) ?_
      refine qL1 115 (.tmp 10) 0 (fun w hC => (hC.blk 3 rfl)) ?_
      refine qR 1 (rg 9 5) ?_
      refine qL1 9 (.tmp 76) 3 (fun w hC => (hC.blk 0 rfl)) ?_
      refine qV (.lookup 115 (.tmp 75) (.tmp 77) false) (.bool ((mget a2v10vm ((gt ((mget a2v6v_1m a1).getD []) t82).to)).getD false)) (fun w hC o ho _ => x_lookup1 (eK:=Value.string) (eV:=Value.bool) (dk:=.string) (b:=ba2v10v) (t:=115) (kt:=9) (et:=4) (m:=a2v10vm) (kk:=((gt ((mget a2v6v_1m a1).getD []) t82).to)) (z:=false) (hC.at 4 rfl) key_str (by kernel_rfl) (by kernel_rfl) (by kernel_rfl) (by kernel_rfl) (by kernel_rfl) ho) ?_
      refine q_split ((mget a2v10vm ((gt ((mget a2v6v_1m a1).getD []) t82).to)).getD false) (fun h115 => ?_) (fun h116 => ?_)
      ·have hp117:=ite_t hp114 h115
       refine qR 3 [] ?_
       refine Qs.nil ?_
       intro w118 hS119
       refine sR 5 td82 ?_
       have hS120:=hS119.drop
       refine sR 1 td83 ?_
       exact rF _ (ih89 (addS t80 ((mget a2v9vm ((gt ((mget a2v6v_1m a1).getD []) t82).to)).getD (0 : Int))) true (IntKind.i64.wrap (t82 + 1)) _ hp117 he87 _ _ hS120)
      have hp121:=ite_f hp114 h116
      refine qR 3 [] ?_
      refine Qs.nil ?_
      intro w122 hS123
      refine sR 5 td82 ?_
      have hS124:=hS123.drop
      refine sR 1 td83 ?_
      exact rF _ (ih89 (addS t80 ((mget a2v9vm ((gt ((mget a2v6v_1m a1).getD []) t82).to)).getD (0 : Int))) false (IntKind.i64.wrap (t82 + 1)) _ hp121 he87 _ _ hS124)
     have hp125:=ite_t hp96 rfl
     refine qR 11 [] ?_
     refine Qs.nil ?_
     intro w126 hS127
     refine sR 5 td82 ?_
     have hS128:=hS127.drop
     refine sR 1 td83 ?_
     exact rF _ (ih89 (addS t80 ((mget a2v9vm ((gt ((mget a2v6v_1m a1).getD []) t82).to)).getD (0 : Int))) true (IntKind.i64.wrap (t82 + 1)) _ hp125 he87 _ _ hS128)
    refine sR 4 td80 ?_
    exact rF _ (J48 t80 t81 ((Option.some.inj hp129).trans he87) _ _ hS84)
   have hS130:=hS31.pick1
   have hS131:=hS130.pick1
   have hS132:=hS131.pick13
   have hS133:=hS132.pick13
   have hS134:=hS133.pick13
   have hS135:=hS134.pick13
   have hS136:=hS135.pick13
   have hS137:=hS136.pick13
   have hS138:=hS137.pick13
   have hS139:=hS138.pick13
   have hS140:=hS139.pick13
   have hS141:=hS140.pick13
   have hS142:=hS141.pick13
   have hS143:=hS142.pick13
   exact rF _ (L91 t29 false 0 _ hv42 rfl _ _ hS143)
  cases t4
  ·have hp144:=ite_f hv27 rfl
   refine sR 2 td78 ?_
   have hS145:=hS25.drop
   have hS146:=hS145.pick5
   have hS147:=hS146.pick5
   have hS148:=hS147.pick5
   have hS149:=hS148.pick5
   have hS150:=hS149.pick5
   have hS151:=hS150.pick5
   have hS152:=hS151.pick7
   have hS153:=hS152.pick7
   have hS154:=hS153.pick13
   have hS155:=hS154.pick13
   have hS156:=hS155.pick13
   have hS157:=hS156.pick13
   have hS158:=hS157.pick13
   have hS159:=hS158.pick13
   exact rF _ (J32 0 (Option.some.inj hp144) _ _ hS159)
  have hp160:=ite_t hv27 rfl
  refine sR 4 td78 ?_
  have hS161:=hS25.drop
  have hS162:=hS161.pick5
  have hS163:=hS162.pick5
  have hS164:=hS163.pick5
  have hS165:=hS164.pick5
  have hS166:=hS165.pick5
  have hS167:=hS166.pick5
  have hS168:=hS167.pick7
  have hS169:=hS168.pick7
  have hS170:=hS169.pick13
  have hS171:=hS170.pick13
  have hS172:=hS171.pick13
  have hS173:=hS172.pick13
  have hS174:=hS173.pick13
  have hS175:=hS174.pick13
  exact rF _ (J32 1 (Option.some.inj hp160) _ _ hS175)

noncomputable def cd48 (p : List Nat) : Code := sub (bodyOf Try.f48) p
abbrev p48_6:=cd48 [1,0,0,1,0,0,0]
abbrev td87:List Item:=[.inBlock 0]
abbrev td88:List Item:=.inLoop (cd48 [1,0,0])::td87
abbrev td89:List Item:=.code (cd48 [1,0,0])::td88
abbrev td90:List Item:=.code (cd48 [1,0,0,1,1])::td88
abbrev td91:List Item:=.inBlock 1::td90
def slices_Backward___string_string__1.l0 (a0c0v2v_0 : ByteArray) (a0c0v2v_1c0vv_0m a0c0v2v_1c0vv_2m : List (ByteArray × Int)) (a0c0v2v_1c1v : weirlaw14_Net) (a0c0v6v_0 : List ByteArray) (a0c0v6v_1m : List (ByteArray × (List explore_edge))) (a1v : List ByteArray) (t15 : Int) (t16 : Bool) (t17 t18 : List (ByteArray × Int)) (t19 : List (ByteArray × Bool)) : Option (Sum (Bool × (List (ByteArray × Int)) × (List (ByteArray × Int)) × (List (ByteArray × Bool))) (Int × Bool × (List (ByteArray × Int)) × (List (ByteArray × Int)) × (List (ByteArray × Bool)))) :=
  (if (decide (t15 ≥ 0)) = true then (if 0 ≤ t15 ∧ t15 < (a1v.length : Int) then (explore_Runs_r.f t15 (gt a1v t15) a0c0v2v_0 a0c0v2v_1c0vv_0m t17 a0c0v2v_1c0vv_2m t16 a0c0v2v_1c1v a0c0v6v_0 a0c0v6v_1m t18 t19 >>= (fun (t39,t40,t41,t42,t43) => (if decide (t39 = 0) = true then (slices_Backward___string_string__1.l0 a0c0v2v_0 a0c0v2v_1c0vv_0m a0c0v2v_1c0vv_2m a0c0v2v_1c1v a0c0v6v_0 a0c0v6v_1m a1v (IntKind.i64.wrap (t15 - 1)) t40 t41 t42 t43) else some (.inr ((t39,t40,t41,t42,t43)))))) else none) else some (.inl (t16,t17,t18,t19)))
 partial_fixpoint
def slices_Backward___string_string__1.f (a0c0v2v_0 : ByteArray) (a0c0v2v_1c0vv_0m a0c0v2v_1c0vv_1m a0c0v2v_1c0vv_2m : List (ByteArray × Int)) (a0c0v2v_1c0vv_3 : Bool) (a0c0v2v_1c1v : weirlaw14_Net) (a0c0v6v_0 : List ByteArray) (a0c0v6v_1m : List (ByteArray × (List explore_edge))) (a0c0v9vm : List (ByteArray × Int)) (a0c0v10vm : List (ByteArray × Bool)) (a1v : List ByteArray) : Option (Int × Bool × (List (ByteArray × Int)) × (List (ByteArray × Int)) × (List (ByteArray × Bool))) :=
  (slices_Backward___string_string__1.l0 a0c0v2v_0 a0c0v2v_1c0vv_0m a0c0v2v_1c0vv_2m a0c0v2v_1c1v a0c0v6v_0 a0c0v6v_1m a1v (IntKind.i64.wrap ((a1v.length : Int) - 1)) a0c0v2v_1c0vv_3 a0c0v2v_1c0vv_1m a0c0v9vm a0c0v10vm >>= (fun | .inl (t4,t5,t6,t7) => some ((0,t4,t5,t6,t7)) | .inr e => some e))
theorem slices_Backward___string_string__1.ok (a0c0v2v_0 : ByteArray) (a0c0v2v_1c0vv_0m a0c0v2v_1c0vv_1m a0c0v2v_1c0vv_2m : List (ByteArray × Int)) (a0c0v2v_1c0vv_3 : Bool) (a0c0v2v_1c1v : weirlaw14_Net) (a0c0v6v_0 : List ByteArray) (a0c0v6v_1m : List (ByteArray × (List explore_edge))) (a0c0v9vm : List (ByteArray × Int)) (a0c0v10vm : List (ByteArray × Bool)) (a1v : List ByteArray) (La0c0 Da0c0 : Nat) (la0c0 : List Value) (ba0c0v2 ba0c0v2v_1c0 : Nat) (ba0c0v2v_1c0v ba0c0v2v_1c0vv_0 : Nat) (ba0c0v2v_1c0vv_1 ba0c0v2v_1c0vv_2 ba0c0v2v_1c1 : Nat) (Aa0c0v2v_1c1v_0 : Option Addr) (ca0c0v2v_1c1v_0 : Nat) (Aa0c0v2v_1c1v_1 : Option Addr) (ca0c0v2v_1c1v_1 : Nat) (Aa0c0v2v_1c1v_2 : Option Addr) (ca0c0v2v_1c1v_2 ba0c0v6 : Nat) (Aa0c0v6v_0 : Option Addr) (ca0c0v6v_0 : Nat) (ba0c0v6v_1 : Option Nat) (ma0c0v6v_1 : List (ByteArray × Hh × List explore_edge)) (wa0c0v6v_2 : Option Nat) (ba0c0v9 ba0c0v9v : Nat) (ba0c0v10 ba0c0v10v ba1 : Nat) (Aa1v : Option Addr) (ca1v : Nat) (hS0 : St w0 Z (xlp La0c0 20 (fill (mk 95 [(2,.pointer (some ⟨ba0c0v2,0,none⟩)),(6,.pointer (some ⟨ba0c0v6,0,none⟩)),(9,.pointer (some ⟨ba0c0v9,0,none⟩)),(10,.pointer (some ⟨ba0c0v10,0,none⟩))]) la0c0) #[40,41] p20_0 p20_1 Da0c0 [] 0::xblk ba0c0v2 32 ([.string a0c0v2v_0,.func (.func 28) #[] #[.pointer (some ⟨ba0c0v2v_1c0,0,none⟩),.pointer (some ⟨ba0c0v2v_1c1,0,none⟩)],.func (.func 31) #[] #[.pointer (some ⟨ba0c0v2v_1c1,0,none⟩),.pointer (some ⟨ba0c0v2v_1c0,0,none⟩)],.func (.func 32) #[] #[.pointer (some ⟨ba0c0v2v_1c0,0,none⟩),.pointer (some ⟨ba0c0v2v_1c1,0,none⟩)]])::xblk ba0c0v2v_1c0 33 ([.pointer (some ⟨ba0c0v2v_1c0v,0,none⟩)])::xblk ba0c0v2v_1c0v 49 ([.map (some ba0c0v2v_1c0vv_0),.map (some ba0c0v2v_1c0vv_1),.map (some ba0c0v2v_1c0vv_2),.bool a0c0v2v_1c0vv_3])::xmap ba0c0v2v_1c0vv_0 (a0c0v2v_1c0vv_0m.map (kv Value.string (Value.int .i64)))::xmap ba0c0v2v_1c0vv_1 (a0c0v2v_1c0vv_1m.map (kv Value.string (Value.int .i64)))::xmap ba0c0v2v_1c0vv_2 (a0c0v2v_1c0vv_2m.map (kv Value.string (Value.int .i64)))::xblk ba0c0v2v_1c1 26 ([.slice Aa0c0v2v_1c1v_0 a0c0v2v_1c1v.Next.length ca0c0v2v_1c1v_0,.slice Aa0c0v2v_1c1v_1 a0c0v2v_1c1v.End.length ca0c0v2v_1c1v_1,.slice Aa0c0v2v_1c1v_2 a0c0v2v_1c1v.Value.length ca0c0v2v_1c1v_2,.int .i64 a0c0v2v_1c1v.Start])::xblk ba0c0v6 109 ([.slice Aa0c0v6v_0 a0c0v6v_0.length ca0c0v6v_0,.map ba0c0v6v_1,.map wa0c0v6v_2])::xmo ba0c0v6v_1 (ma0c0v6v_1.map (kv Value.string eVH))::xblk ba0c0v9 114 ([.map (some ba0c0v9v)])::xmap ba0c0v9v (a0c0v9vm.map (kv Value.string (Value.int .u64)))::xblk ba0c0v10 115 ([.map (some ba0c0v10v)])::xmap ba0c0v10v (a0c0v10vm.map (kv Value.string Value.bool))::xblk ba1 36 ([.slice Aa1v a1v.length ca1v])::fs) w) (ha0c0v2v_1c1v_0 : SlZ (repL (flat (encI .i64)) 1) 1 Z Aa0c0v2v_1c1v_0 ca0c0v2v_1c1v_0 a0c0v2v_1c1v.Next) (ha0c0v2v_1c1v_1 : SlZ (flat encB) 1 Z Aa0c0v2v_1c1v_1 ca0c0v2v_1c1v_1 a0c0v2v_1c1v.End) (ha0c0v2v_1c1v_2 : SlZ (flat (encI .i64)) 1 Z Aa0c0v2v_1c1v_2 ca0c0v2v_1c1v_2 a0c0v2v_1c1v.Value) (ha0c0v6v_0 : SlZ (flat encS) 1 Z Aa0c0v6v_0 ca0c0v6v_0 a0c0v6v_0) (hma0c0v6v_1 : MZ enc_explore_edge 4 Z ma0c0v6v_1 a0c0v6v_1m) (ha1v : SlZ (flat encS) 1 Z Aa1v ca1v a1v) {q0 : Int} {q1 : Bool} {q2 q3 : List (ByteArray × Int)} {q4 : List (ByteArray × Bool)} (hp0 : slices_Backward___string_string__1.f a0c0v2v_0 a0c0v2v_1c0vv_0m a0c0v2v_1c0vv_1m a0c0v2v_1c0vv_2m a0c0v2v_1c0vv_3 a0c0v2v_1c1v a0c0v6v_0 a0c0v6v_1m a0c0v9vm a0c0v10vm a1v = some (q0,q1,q2,q3,q4)) :
    Calls Try.prog 48 #[.func (.yield La0c0) #[] #[],.pointer (some ⟨ba1,0,none⟩)] w (fun e w' => e = .returned (.tuple #[]) ∧ St w0 Z (xlp La0c0 20 (fill (mk 95 [(2,.pointer (some ⟨ba0c0v2,0,none⟩)),(6,.pointer (some ⟨ba0c0v6,0,none⟩)),(9,.pointer (some ⟨ba0c0v9,0,none⟩)),(10,.pointer (some ⟨ba0c0v10,0,none⟩))]) la0c0) #[40,41] p20_0 p20_1 Da0c0 [] q0::xblk ba0c0v2 32 ([.string a0c0v2v_0,.func (.func 28) #[] #[.pointer (some ⟨ba0c0v2v_1c0,0,none⟩),.pointer (some ⟨ba0c0v2v_1c1,0,none⟩)],.func (.func 31) #[] #[.pointer (some ⟨ba0c0v2v_1c1,0,none⟩),.pointer (some ⟨ba0c0v2v_1c0,0,none⟩)],.func (.func 32) #[] #[.pointer (some ⟨ba0c0v2v_1c0,0,none⟩),.pointer (some ⟨ba0c0v2v_1c1,0,none⟩)]])::xblk ba0c0v2v_1c0 33 ([.pointer (some ⟨ba0c0v2v_1c0v,0,none⟩)])::xblk ba0c0v2v_1c0v 49 ([.map (some ba0c0v2v_1c0vv_0),.map (some ba0c0v2v_1c0vv_1),.map (some ba0c0v2v_1c0vv_2),.bool q1])::xmap ba0c0v2v_1c0vv_0 (a0c0v2v_1c0vv_0m.map (kv Value.string (Value.int .i64)))::xmap ba0c0v2v_1c0vv_1 (q2.map (kv Value.string (Value.int .i64)))::xmap ba0c0v2v_1c0vv_2 (a0c0v2v_1c0vv_2m.map (kv Value.string (Value.int .i64)))::xblk ba0c0v2v_1c1 26 ([.slice Aa0c0v2v_1c1v_0 a0c0v2v_1c1v.Next.length ca0c0v2v_1c1v_0,.slice Aa0c0v2v_1c1v_1 a0c0v2v_1c1v.End.length ca0c0v2v_1c1v_1,.slice Aa0c0v2v_1c1v_2 a0c0v2v_1c1v.Value.length ca0c0v2v_1c1v_2,.int .i64 a0c0v2v_1c1v.Start])::xblk ba0c0v6 109 ([.slice Aa0c0v6v_0 a0c0v6v_0.length ca0c0v6v_0,.map ba0c0v6v_1,.map wa0c0v6v_2])::xmo ba0c0v6v_1 (ma0c0v6v_1.map (kv Value.string eVH))::xblk ba0c0v9 114 ([.map (some ba0c0v9v)])::xmap ba0c0v9v (q3.map (kv Value.string (Value.int .u64)))::xblk ba0c0v10 115 ([.map (some ba0c0v10v)])::xmap ba0c0v10v (q4.map (kv Value.string Value.bool))::xblk ba1 36 ([.slice Aa1v a1v.length ca1v])::fs) w'):=by
  refine calls_abs ?_; intro R hR
  unfold slices_Backward___string_string__1.f at hp0
  refine calls_of_runs (fn:=Try.f48) (c:=cd48 []) Try.func48 (by kernel_rfl) (al:=[.func (.yield La0c0) #[] #[],.pointer (some ⟨ba1,0,none⟩)]) rfl (n:=17) rfl ?_
  refine sR 2 [iR (cd48 [0]) 0 4,.code (cd48 [1])] ?_
  refine rL1 36 (.tmp 1) 0 (hS0.blk 14 rfl) ?_
  refine sR 6 td89 ?_
  obtain ⟨v1,hv2,hp3⟩:=bind_some' hp0
  have hq10 : ∀ x,Sum.inr x = v1 → x = (q0,q1,q2,q3,q4):=by intro x hx; subst hx; simpa using hp3
  have J11 : ∀ (t4 : Bool) (t5 t6 : List (ByteArray × Int)) (t7 : List (ByteArray × Bool)) (he13 : Sum.inl (t4,t5,t6,t7) = v1) (l12 : List Value) (w8 : World) (hS9 : St w0 Z (xlp La0c0 20 (fill (mk 95 [(2,.pointer (some ⟨ba0c0v2,0,none⟩)),(6,.pointer (some ⟨ba0c0v6,0,none⟩)),(9,.pointer (some ⟨ba0c0v9,0,none⟩)),(10,.pointer (some ⟨ba0c0v10,0,none⟩))]) la0c0) #[40,41] p20_0 p20_1 Da0c0 [] 0::xblk ba0c0v2 32 ([.string a0c0v2v_0,.func (.func 28) #[] #[.pointer (some ⟨ba0c0v2v_1c0,0,none⟩),.pointer (some ⟨ba0c0v2v_1c1,0,none⟩)],.func (.func 31) #[] #[.pointer (some ⟨ba0c0v2v_1c1,0,none⟩),.pointer (some ⟨ba0c0v2v_1c0,0,none⟩)],.func (.func 32) #[] #[.pointer (some ⟨ba0c0v2v_1c0,0,none⟩),.pointer (some ⟨ba0c0v2v_1c1,0,none⟩)]])::xblk ba0c0v2v_1c0 33 ([.pointer (some ⟨ba0c0v2v_1c0v,0,none⟩)])::xblk ba0c0v2v_1c0v 49 ([.map (some ba0c0v2v_1c0vv_0),.map (some ba0c0v2v_1c0vv_1),.map (some ba0c0v2v_1c0vv_2),.bool t4])::xmap ba0c0v2v_1c0vv_0 (a0c0v2v_1c0vv_0m.map (kv Value.string (Value.int .i64)))::xmap ba0c0v2v_1c0vv_1 (t5.map (kv Value.string (Value.int .i64)))::xmap ba0c0v2v_1c0vv_2 (a0c0v2v_1c0vv_2m.map (kv Value.string (Value.int .i64)))::xblk ba0c0v2v_1c1 26 ([.slice Aa0c0v2v_1c1v_0 a0c0v2v_1c1v.Next.length ca0c0v2v_1c1v_0,.slice Aa0c0v2v_1c1v_1 a0c0v2v_1c1v.End.length ca0c0v2v_1c1v_1,.slice Aa0c0v2v_1c1v_2 a0c0v2v_1c1v.Value.length ca0c0v2v_1c1v_2,.int .i64 a0c0v2v_1c1v.Start])::xblk ba0c0v6 109 ([.slice Aa0c0v6v_0 a0c0v6v_0.length ca0c0v6v_0,.map ba0c0v6v_1,.map wa0c0v6v_2])::xmo ba0c0v6v_1 (ma0c0v6v_1.map (kv Value.string eVH))::xblk ba0c0v9 114 ([.map (some ba0c0v9v)])::xmap ba0c0v9v (t6.map (kv Value.string (Value.int .u64)))::xblk ba0c0v10 115 ([.map (some ba0c0v10v)])::xmap ba0c0v10v (t7.map (kv Value.string Value.bool))::xblk ba1 36 ([.slice Aa1v a1v.length ca1v])::fs) w8),Runs Try.prog (fx 48) [] (fill (mk 19 []) l12) w8 R:=by
   intro t4 t5 t6 t7 he13 l12 w8 hS9
   subst he13
   try dsimp only at hp3
   refine runs_end (fn:=Try.f48) (v:=.tuple #[]) Try.func48 (by kernel_rfl) ?_
   cases Option.some.inj hp3
   exact hR _ _ ⟨rfl,hS9⟩
  have L28 : ∀ (t15 : Int) (t16 : Bool) (t17 t18 : List (ByteArray × Int)) (t19 : List (ByteArray × Bool)) (e23 : Sum (Bool × (List (ByteArray × Int)) × (List (ByteArray × Int)) × (List (ByteArray × Bool))) (Int × Bool × (List (ByteArray × Int)) × (List (ByteArray × Int)) × (List (ByteArray × Bool)))),slices_Backward___string_string__1.l0 a0c0v2v_0 a0c0v2v_1c0vv_0m a0c0v2v_1c0vv_2m a0c0v2v_1c1v a0c0v6v_0 a0c0v6v_1m a1v t15 t16 t17 t18 t19 = some e23 → e23 = v1 → ∀ (l22 : List Value) (w20 : World) (hS21 : St w0 Z (xlp La0c0 20 (fill (mk 95 [(2,.pointer (some ⟨ba0c0v2,0,none⟩)),(6,.pointer (some ⟨ba0c0v6,0,none⟩)),(9,.pointer (some ⟨ba0c0v9,0,none⟩)),(10,.pointer (some ⟨ba0c0v10,0,none⟩))]) la0c0) #[40,41] p20_0 p20_1 Da0c0 [] 0::xblk ba0c0v2 32 ([.string a0c0v2v_0,.func (.func 28) #[] #[.pointer (some ⟨ba0c0v2v_1c0,0,none⟩),.pointer (some ⟨ba0c0v2v_1c1,0,none⟩)],.func (.func 31) #[] #[.pointer (some ⟨ba0c0v2v_1c1,0,none⟩),.pointer (some ⟨ba0c0v2v_1c0,0,none⟩)],.func (.func 32) #[] #[.pointer (some ⟨ba0c0v2v_1c0,0,none⟩),.pointer (some ⟨ba0c0v2v_1c1,0,none⟩)]])::xblk ba0c0v2v_1c0 33 ([.pointer (some ⟨ba0c0v2v_1c0v,0,none⟩)])::xblk ba0c0v2v_1c0v 49 ([.map (some ba0c0v2v_1c0vv_0),.map (some ba0c0v2v_1c0vv_1),.map (some ba0c0v2v_1c0vv_2),.bool t16])::xmap ba0c0v2v_1c0vv_0 (a0c0v2v_1c0vv_0m.map (kv Value.string (Value.int .i64)))::xmap ba0c0v2v_1c0vv_1 (t17.map (kv Value.string (Value.int .i64)))::xmap ba0c0v2v_1c0vv_2 (a0c0v2v_1c0vv_2m.map (kv Value.string (Value.int .i64)))::xblk ba0c0v2v_1c1 26 ([.slice Aa0c0v2v_1c1v_0 a0c0v2v_1c1v.Next.length ca0c0v2v_1c1v_0,.slice Aa0c0v2v_1c1v_1 a0c0v2v_1c1v.End.length ca0c0v2v_1c1v_1,.slice Aa0c0v2v_1c1v_2 a0c0v2v_1c1v.Value.length ca0c0v2v_1c1v_2,.int .i64 a0c0v2v_1c1v.Start])::xblk ba0c0v6 109 ([.slice Aa0c0v6v_0 a0c0v6v_0.length ca0c0v6v_0,.map ba0c0v6v_1,.map wa0c0v6v_2])::xmo ba0c0v6v_1 (ma0c0v6v_1.map (kv Value.string eVH))::xblk ba0c0v9 114 ([.map (some ba0c0v9v)])::xmap ba0c0v9v (t18.map (kv Value.string (Value.int .u64)))::xblk ba0c0v10 115 ([.map (some ba0c0v10v)])::xmap ba0c0v10v (t19.map (kv Value.string Value.bool))::xblk ba1 36 ([.slice Aa1v a1v.length ca1v])::fs) w20),Runs Try.prog (fx 48) td89 (fill (mk 19 [(0,.func (.yield La0c0) #[] #[]),(1,.pointer (some ⟨ba1,0,none⟩)),(3,.int .i64 t15)]) l22) w20 R:=by
   refine slices_Backward___string_string__1.l0.partial_correctness a0c0v2v_0 a0c0v2v_1c0vv_0m a0c0v2v_1c0vv_2m a0c0v2v_1c1v a0c0v6v_0 a0c0v6v_1m a1v (fun t15 t16 t17 t18 t19 e23 => e23 = v1 → ∀ (l22 : List Value) (w20 : World) (hS21 : St w0 Z (xlp La0c0 20 (fill (mk 95 [(2,.pointer (some ⟨ba0c0v2,0,none⟩)),(6,.pointer (some ⟨ba0c0v6,0,none⟩)),(9,.pointer (some ⟨ba0c0v9,0,none⟩)),(10,.pointer (some ⟨ba0c0v10,0,none⟩))]) la0c0) #[40,41] p20_0 p20_1 Da0c0 [] 0::xblk ba0c0v2 32 ([.string a0c0v2v_0,.func (.func 28) #[] #[.pointer (some ⟨ba0c0v2v_1c0,0,none⟩),.pointer (some ⟨ba0c0v2v_1c1,0,none⟩)],.func (.func 31) #[] #[.pointer (some ⟨ba0c0v2v_1c1,0,none⟩),.pointer (some ⟨ba0c0v2v_1c0,0,none⟩)],.func (.func 32) #[] #[.pointer (some ⟨ba0c0v2v_1c0,0,none⟩),.pointer (some ⟨ba0c0v2v_1c1,0,none⟩)]])::xblk ba0c0v2v_1c0 33 ([.pointer (some ⟨ba0c0v2v_1c0v,0,none⟩)])::xblk ba0c0v2v_1c0v 49 ([.map (some ba0c0v2v_1c0vv_0),.map (some ba0c0v2v_1c0vv_1),.map (some ba0c0v2v_1c0vv_2),.bool t16])::xmap ba0c0v2v_1c0vv_0 (a0c0v2v_1c0vv_0m.map (kv Value.string (Value.int .i64)))::xmap ba0c0v2v_1c0vv_1 (t17.map (kv Value.string (Value.int .i64)))::xmap ba0c0v2v_1c0vv_2 (a0c0v2v_1c0vv_2m.map (kv Value.string (Value.int .i64)))::xblk ba0c0v2v_1c1 26 ([.slice Aa0c0v2v_1c1v_0 a0c0v2v_1c1v.Next.length ca0c0v2v_1c1v_0,.slice Aa0c0v2v_1c1v_1 a0c0v2v_1c1v.End.length ca0c0v2v_1c1v_1,.slice Aa0c0v2v_1c1v_2 a0c0v2v_1c1v.Value.length ca0c0v2v_1c1v_2,.int .i64 a0c0v2v_1c1v.Start])::xblk ba0c0v6 109 ([.slice Aa0c0v6v_0 a0c0v6v_0.length ca0c0v6v_0,.map ba0c0v6v_1,.map wa0c0v6v_2])::xmo ba0c0v6v_1 (ma0c0v6v_1.map (kv Value.string eVH))::xblk ba0c0v9 114 ([.map (some ba0c0v9v)])::xmap ba0c0v9v (t18.map (kv Value.string (Value.int .u64)))::xblk ba0c0v10 115 ([.map (some ba0c0v10v)])::xmap ba0c0v10v (t19.map (kv Value.string Value.bool))::xblk ba1 36 ([.slice Aa1v a1v.length ca1v])::fs) w20),Runs Try.prog (fx 48) td89 (fill (mk 19 [(0,.func (.yield La0c0) #[] #[]),(1,.pointer (some ⟨ba1,0,none⟩)),(3,.int .i64 t15)]) l22) w20 R) ?_
   intro rec27 ih26 t15 t16 t17 t18 t19 e23 hb25 he24 l22 w20 hS21
   have hq29 : ∀ x,Sum.inr x = e23 → x = (q0,q1,q2,q3,q4):=fun x hx => hq10 x (hx.trans he24)
   refine sI 5 (.inRegion (opsOf (cd48 [1,0,0,0,0])) []::.code (cd48 [1,0,0,0,1])::.code (cd48 [1,0,0,1])::td88) 8 hb25 (fun hp32 => ?_) fun hp71 => ?_
   ·refine sR 9 (iR p48_6 2 6::.code (cd48 [1,0,0,1,0,0,1])::td91) ?_
    refine rL1 36 (.tmp 1) 0 (hS21.blk 14 rfl) ?_
    refine sR 1 (iR p48_6 4 4::.code (cd48 [1,0,0,1,0,0,1])::td91) ?_
    obtain ⟨g33,hp34⟩:=ite_some hp32
    obtain ⟨b35,p36,hA37,hc38⟩:=ha1v.atF g33.1 g33.2
    refine r_indexAddr (c:=p48_6) (i:=4) (d:=(some 15)) (ty:=0) (t:=36) (e:=9) (n:=a1v.length) (cp:=ca1v) (sz:=1) (kk:=.i64) (x:=(.tmp 13)) (y:=(.tmp 14)) (b:=b35) (o':=p36) (j:=t15) (by kernel_rfl) (by kernel_rfl) (slv (by kernel_rfl) hA37) (by kernel_rfl) (by kernel_rfl) (by kernel_rfl) g33.1 g33.2 ?_
    refine rL1 9 (.tmp 15) 0 (hc38.cells hS21) ?_
    obtain ⟨⟨t39,t40,t41,t42,t43⟩,hr44,hp45⟩:=bind_some' hp34
    try dsimp only at hp45
    have hS50:=hS21.pick13
    have hS51:=hS50.pick13
    have hS52:=hS51.pick13
    have hS53:=hS52.pick13
    have hS54:=hS53.pick13
    have hS55:=hS54.pick13
    have hS56:=hS55.pick13
    have hS57:=hS56.pick13
    have hS58:=hS57.pick13
    have hS59:=hS58.pick13
    have hS60:=hS59.pick13
    have hS61:=hS60.pick13
    have hS62:=hS61.pick13
    have hS63:=hS62.pick13
    refine r_yield (c:=p48_6) (i:=6) (d:=(some 17)) (args:=#[.int .i64 t15,.string (gt a1v t15)]) (hS63.lp 0 rfl) (by kernel_rfl) (by kernel_rfl) (by kernel_rfl) (by kernel_rfl) (explore_Runs_r.ok t15 (gt a1v t15) a0c0v2v_0 a0c0v2v_1c0vv_0m t17 a0c0v2v_1c0vv_2m t16 a0c0v2v_1c1v a0c0v6v_0 a0c0v6v_1m t18 t19 La0c0 Da0c0 la0c0 ba0c0v2 ba0c0v2v_1c0 ba0c0v2v_1c0v ba0c0v2v_1c0vv_0 ba0c0v2v_1c0vv_1 ba0c0v2v_1c0vv_2 ba0c0v2v_1c1 Aa0c0v2v_1c1v_0 ca0c0v2v_1c1v_0 Aa0c0v2v_1c1v_1 ca0c0v2v_1c1v_1 Aa0c0v2v_1c1v_2 ca0c0v2v_1c1v_2 ba0c0v6 Aa0c0v6v_0 ca0c0v6v_0 ba0c0v6v_1 ma0c0v6v_1 wa0c0v6v_2 ba0c0v9 ba0c0v9v ba0c0v10 ba0c0v10v hS63 ha0c0v2v_1c1v_0 ha0c0v2v_1c1v_1 ha0c0v2v_1c1v_2 ha0c0v6v_0 hma0c0v6v_1 hr44) rfl (by kernel_rfl) ?_
    rintro _ w64 ⟨rfl,hS65⟩
    refine ⟨_,rfl,?_⟩
    refine r_split (decide (t39 = 0)) (fun h66 => ?_) (fun h67 => ?_)
    ·have hp68:=ite_t hp45 h66
     obtain rfl:=of_decide_eq_true h66
     refine sR 10 td88 ?_
     refine sR 1 td89 ?_
     exact rF _ (ih26 (IntKind.i64.wrap (t15 - 1)) t40 t41 t42 t43 _ hp68 he24 _ _ hS65)
    have hp69:=ite_f hp45 h67
    refine sR 3 (.code (cd48 [1,0,0,1,0,0,1,0])::td91) ?_
    refine rR (.tuple #[]) Try.func48 ?_
    cases hq29 _ (Option.some.inj hp69)
    exact hR _ _ ⟨rfl,hS65⟩
   refine sR 3 [] ?_
   exact rF _ (J11 t16 t17 t18 t19 ((Option.some.inj hp71).trans he24) _ _ hS21)
  exact rF _ (L28 (IntKind.i64.wrap ((a1v.length : Int) - 1)) a0c0v2v_1c0vv_3 a0c0v2v_1c0vv_1m a0c0v9vm a0c0v10vm _ hv2 rfl _ _ hS0)

abbrev p20_38:=cd20 [1,1,1,1,1,1,1,0,1,0]
abbrev p20_39:=cd20 [1,1,1,1,1,1,1,1,0,0]
abbrev p20_40:=cd20 [1,1,1,1,1,1,1,1,0,1]
abbrev p20_41:=cd20 [1,1,1,1,1,1,1,1,1]
abbrev p20_43:=cd20 [1,1,1,1,1,1,1,1,1,0]
abbrev p20_44:=cd20 [1,1,1,1,1,1,1,1,1,1]
def explore_Runs.f (y9 : ByteArray) (a0_1c0vv_0m a0_1c0vv_1m a0_1c0vv_2m : List (ByteArray × Int)) (a0_1c0vv_3 : Bool) (a0_1c1v : weirlaw14_Net) (a1 : Int) : Option (Int × Int × Bool × (List (ByteArray × Int)) × (List (ByteArray × Int)) × (List (ByteArray × Int))) :=
  (explore_all.f y9 a0_1c0vv_0m a0_1c0vv_1m a0_1c0vv_2m a0_1c0vv_3 a0_1c1v a1 >>= (fun (t5,t6,t7,t8,t9,t10) => (if (!t7) = true then some ((0,1,t8,t9,a0_1c0vv_1m,t10)) else (explore_graph__ordered.f t5 t6 >>= (fun (t51,t52) => (if (!t52) = true then some ((0,30,t8,t9,a0_1c0vv_1m,t10)) else (slices_Backward___string_string.f t51 >>= (fun t102 => (slices_Backward___string_string__1.f y9 t9 a0_1c0vv_1m t10 t8 a0_1c1v t5 t6 ([] : List (ByteArray × Int)) ([] : List (ByteArray × Bool)) t102 >>= (fun (t126,t127,t128,t129,t130) => (if t126 = 0 then (if ((mget t130 y9).getD false) = true then some ((0,30,t127,t9,t128,t10)) else some ((((mget t129 y9).getD (0 : Int)),0,t127,t9,t128,t10))) else none)))))))))))
theorem explore_Runs.ok {y9 : ByteArray} {a0_1c0vv_0m a0_1c0vv_1m a0_1c0vv_2m : List (ByteArray × Int)} {a0_1c0vv_3 : Bool} {a0_1c1v : weirlaw14_Net} {a1 : Int} {ba0_1c0 ba0_1c0v : Nat} {ba0_1c0vv_0 ba0_1c0vv_1 : Nat} {ba0_1c0vv_2 ba0_1c1 : Nat} {Aa0_1c1v_0 : Option Addr} {ca0_1c1v_0 : Nat} {Aa0_1c1v_1 : Option Addr} {ca0_1c1v_1 : Nat} {Aa0_1c1v_2 : Option Addr} {ca0_1c1v_2 : Nat} {q0 q1 : Int} {q2 : Bool} {q3 q4 q5 : List (ByteArray × Int)} (hp0 : explore_Runs.f y9 a0_1c0vv_0m a0_1c0vv_1m a0_1c0vv_2m a0_1c0vv_3 a0_1c1v a1 = some (q0,q1,q2,q3,q4,q5)) (hS0 : St w0 Z (xblk ba0_1c0 33 ([.pointer (some ⟨ba0_1c0v,0,none⟩)])::xblk ba0_1c0v 49 ([.map (some ba0_1c0vv_0),.map (some ba0_1c0vv_1),.map (some ba0_1c0vv_2),.bool a0_1c0vv_3])::xmap ba0_1c0vv_0 (a0_1c0vv_0m.map (kv Value.string (Value.int .i64)))::xmap ba0_1c0vv_1 (a0_1c0vv_1m.map (kv Value.string (Value.int .i64)))::xmap ba0_1c0vv_2 (a0_1c0vv_2m.map (kv Value.string (Value.int .i64)))::xblk ba0_1c1 26 ([.slice Aa0_1c1v_0 a0_1c1v.Next.length ca0_1c1v_0,.slice Aa0_1c1v_1 a0_1c1v.End.length ca0_1c1v_1,.slice Aa0_1c1v_2 a0_1c1v.Value.length ca0_1c1v_2,.int .i64 a0_1c1v.Start])::fs) w) (ha0_1c1v_0 : SlZ (repL (flat (encI .i64)) 1) 1 Z Aa0_1c1v_0 ca0_1c1v_0 a0_1c1v.Next) (ha0_1c1v_1 : SlZ (flat encB) 1 Z Aa0_1c1v_1 ca0_1c1v_1 a0_1c1v.End) (ha0_1c1v_2 : SlZ (flat (encI .i64)) 1 Z Aa0_1c1v_2 ca0_1c1v_2 a0_1c1v.Value) :
    Calls Try.prog 20 #[.agg #[.string y9,.func (.func 28) #[] #[.pointer (some ⟨ba0_1c0,0,none⟩),.pointer (some ⟨ba0_1c1,0,none⟩)],.func (.func 31) #[] #[.pointer (some ⟨ba0_1c1,0,none⟩),.pointer (some ⟨ba0_1c0,0,none⟩)],.func (.func 32) #[] #[.pointer (some ⟨ba0_1c0,0,none⟩),.pointer (some ⟨ba0_1c1,0,none⟩)]],.int .i64 a1] w (fun e w' => e = .returned (.tuple #[.int .u64 q0,.int .i64 q1]) ∧ St w0 Z (xblk ba0_1c0 33 ([.pointer (some ⟨ba0_1c0v,0,none⟩)])::xblk ba0_1c0v 49 ([.map (some ba0_1c0vv_0),.map (some ba0_1c0vv_1),.map (some ba0_1c0vv_2),.bool q2])::xmap ba0_1c0vv_0 (q3.map (kv Value.string (Value.int .i64)))::xmap ba0_1c0vv_1 (q4.map (kv Value.string (Value.int .i64)))::xmap ba0_1c0vv_2 (q5.map (kv Value.string (Value.int .i64)))::xblk ba0_1c1 26 ([.slice Aa0_1c1v_0 a0_1c1v.Next.length ca0_1c1v_0,.slice Aa0_1c1v_1 a0_1c1v.End.length ca0_1c1v_1,.slice Aa0_1c1v_2 a0_1c1v.Value.length ca0_1c1v_2,.int .i64 a0_1c1v.Start])::fs) w'):=by
  refine calls_abs ?_; intro R hR
  unfold explore_Runs.f at hp0
  refine calls_of_runs (fn:=Try.f20) (c:=cd20 []) Try.func20 (by kernel_rfl) (al:=[.agg #[.string y9,.func (.func 28) #[] #[.pointer (some ⟨ba0_1c0,0,none⟩),.pointer (some ⟨ba0_1c1,0,none⟩)],.func (.func 31) #[] #[.pointer (some ⟨ba0_1c1,0,none⟩),.pointer (some ⟨ba0_1c0,0,none⟩)],.func (.func 32) #[] #[.pointer (some ⟨ba0_1c0,0,none⟩),.pointer (some ⟨ba0_1c1,0,none⟩)]],.int .i64 a1]) rfl (n:=93) rfl ?_
  refine sR 2 [.inRegion (opsOf (cd20 [0])) [0,1,2],.code (cd20 [1])] ?_
  refine r_box (c:=(cd20 [0])) (i:=0) (d:=(some 2)) (ty:=0) (x:=(.tmp 0)) (v:=.agg #[.string y9,.func (.func 28) #[] #[.pointer (some ⟨ba0_1c0,0,none⟩),.pointer (some ⟨ba0_1c1,0,none⟩)],.func (.func 31) #[] #[.pointer (some ⟨ba0_1c1,0,none⟩),.pointer (some ⟨ba0_1c0,0,none⟩)],.func (.func 32) #[] #[.pointer (some ⟨ba0_1c0,0,none⟩),.pointer (some ⟨ba0_1c1,0,none⟩)]]) (t:=32) (cs:=[.string y9,.func (.func 28) #[] #[.pointer (some ⟨ba0_1c0,0,none⟩),.pointer (some ⟨ba0_1c1,0,none⟩)],.func (.func 31) #[] #[.pointer (some ⟨ba0_1c1,0,none⟩),.pointer (some ⟨ba0_1c0,0,none⟩)],.func (.func 32) #[] #[.pointer (some ⟨ba0_1c0,0,none⟩),.pointer (some ⟨ba0_1c1,0,none⟩)]]) hS0 (by kernel_rfl) (by kernel_rfl) (by kernel_rfl) (by kernel_rfl) ?_
  intro b1 w2 hS3
  refine sR 5 [iR (cd20 [1,0]) 0 9,.code (cd20 [1,1])] ?_
  refine rLa 32 (.tmp 2) (hS3.blk 0 rfl) ?_
  refine sR 1 [iR (cd20 [1,0]) 2 7,.code (cd20 [1,1])] ?_
  obtain ⟨⟨t5,t6,t7,t8,t9,t10⟩,hr16,hp17⟩:=bind_some' hp0
  try dsimp only at hp17
  have hS23:=hS3.pick6
  have hS24:=hS23.pick6
  have hS25:=hS24.pick6
  have hS26:=hS25.pick6
  have hS27:=hS26.pick6
  have hS28:=hS27.pick6
  refine rC (explore_all.ok hr16 hS28 ha0_1c1v_0 ha0_1c1v_1 ha0_1c1v_2) ?_
  rintro _ w29 ⟨Q11,Q12,Q13,Q14,Q15,Z31,hz32,rfl,hS30,hs33⟩
  refine ⟨_,rfl,?_⟩
  refine sR 3 [.inRegion (opsOf (cd20 [1,0])) [6,7,8],.code (cd20 [1,1])] ?_
  refine rA 109 (.agg #[.slice none 0 0,.map none,.map none]) [.slice none 0 0,.map none,.map none] hS30 ?_
  intro b34 w35 hS36
  refine rS 109 (.tmp 6) (.tmp 25) 0 (.agg #[.slice Q11 t5.length Q12,.map Q13,.map Q15]) [.slice Q11 t5.length Q12,.map Q13,.map Q15] [.slice Q11 t5.length Q12,.map Q13,.map Q15] hS36 ?_
  intro w38 hS39
  refine sI 7 [.inRegion (opsOf (cd20 [1,1,0,0])) [],.code (cd20 [1,1,0,1]),.code (cd20 [1,1,1])] 28 hp17 (fun hp42 => ?_) fun hp50 => ?_
  ·refine sR 7 [.code (cd20 [1,1,0,1,0,1]),.code (cd20 [1,1,1])] ?_
   have hS43:=hS39.drop
   have hS44:=hS43.drop
   have hS45:=hS44.drop
   have hS46:=hS45.pick6
   have hS47:=hS46.drop
   have hS48:=hS47.less hz32
   refine rR (.tuple #[.int .u64 0,.int .i64 1]) Try.func20 ?_
   cases Option.some.inj hp42
   exact hR _ _ ⟨rfl,hS48⟩
  refine sR 5 [iR (cd20 [1,1,1,0]) 0 7,.code (cd20 [1,1,1,1])] ?_
  refine rLa 109 (.tmp 6) (hS39.blk 0 rfl) ?_
  obtain ⟨⟨t51,t52⟩,hr55,hp56⟩:=bind_some' hp50
  try dsimp only at hp56
  have hS58:=hS39.pick1
  obtain ⟨Z59,hz60,hS61,hs62,hb63⟩:=hS58.lendrow len_encS (by omega)
  have hS64:=hS61.pick1
  refine rC (explore_graph__ordered.ok t5 t6 Q11 Q12 Q13 Q14 Q15 hS64 hs62 (MZ.up hs33 hz60) hr55) ?_
  rintro _ w65 ⟨Q53,Q54,rfl,hS66⟩
  refine ⟨_,rfl,?_⟩
  have hS67:=hb63 _ _ hS66
  refine sI 11 [.inRegion (opsOf (cd20 [1,1,1,1,0,0])) [],.code (cd20 [1,1,1,1,0,1]),.code (cd20 [1,1,1,1,1])] 35 hp56 (fun hp70 => ?_) fun hp79 => ?_
  ·refine sR 7 [.code (cd20 [1,1,1,1,0,1,0,1]),.code (cd20 [1,1,1,1,1])] ?_
   have hS71:=hS67.drop
   have hS72:=hS71.drop
   have hS73:=hS72.drop
   have hS74:=hS73.drop
   have hS75:=hS74.pick6
   have hS76:=hS75.drop
   have hS77:=hS76.less hz32
   refine rR (.tuple #[.int .u64 0,.int .i64 30]) Try.func20 ?_
   cases Option.some.inj hp70
   exact hR _ _ ⟨rfl,hS77⟩
  refine sR 5 [.inRegion (opsOf (cd20 [1,1,1,1,1,0])) [0,1,2],.code (cd20 [1,1,1,1,1,1])] ?_
  refine r_makeMap (c:=(cd20 [1,1,1,1,1,0])) (i:=0) (d:=(some 36)) (ty:=114) (t:=114) hS67 (by kernel_rfl) (by kernel_rfl) ?_
  intro b80 w81 hS82
  have hS84 : St w0 Z31 (xmap b80 (([] : List (ByteArray × Int)).map (kv Value.string (Value.int .u64)))::xrow Q11 Q12 9 1 (t5.flatMap encS)::xrow Q53 Q54 9 1 (t51.flatMap encS)::xmo Q13 (Q14.map (kv Value.string eVH))::xblk b34 109 ([.slice Q11 t5.length Q12,.map Q13,.map Q15])::xblk ba0_1c0 33 ([.pointer (some ⟨ba0_1c0v,0,none⟩)])::xblk ba0_1c0v 49 ([.map (some ba0_1c0vv_0),.map (some ba0_1c0vv_1),.map (some ba0_1c0vv_2),.bool t8])::xmap ba0_1c0vv_0 (t9.map (kv Value.string (Value.int .i64)))::xmap ba0_1c0vv_1 (a0_1c0vv_1m.map (kv Value.string (Value.int .i64)))::xmap ba0_1c0vv_2 (t10.map (kv Value.string (Value.int .i64)))::xblk ba0_1c1 26 ([.slice Aa0_1c1v_0 a0_1c1v.Next.length ca0_1c1v_0,.slice Aa0_1c1v_1 a0_1c1v.End.length ca0_1c1v_1,.slice Aa0_1c1v_2 a0_1c1v.Value.length ca0_1c1v_2,.int .i64 a0_1c1v.Start])::xblk b1 32 ([.string y9,.func (.func 28) #[] #[.pointer (some ⟨ba0_1c0,0,none⟩),.pointer (some ⟨ba0_1c1,0,none⟩)],.func (.func 31) #[] #[.pointer (some ⟨ba0_1c1,0,none⟩),.pointer (some ⟨ba0_1c0,0,none⟩)],.func (.func 32) #[] #[.pointer (some ⟨ba0_1c0,0,none⟩),.pointer (some ⟨ba0_1c1,0,none⟩)]])::fs) w81:=hS82
  refine rA 114 (.map none) [.map none] hS84 ?_
  intro b85 w86 hS87
  refine rS 114 (.tmp 9) (.tmp 36) 0 (.map (some b80)) [.map (some b80)] [.map (some b80)] hS87 ?_
  intro w89 hS90
  refine sR 3 [.inRegion (opsOf (cd20 [1,1,1,1,1,1,0])) [0,1,2],.code (cd20 [1,1,1,1,1,1,1])] ?_
  refine r_makeMap (c:=(cd20 [1,1,1,1,1,1,0])) (i:=0) (d:=(some 37)) (ty:=115) (t:=115) hS90 (by kernel_rfl) (by kernel_rfl) ?_
  intro b91 w92 hS93
  have hS95 : St w0 Z31 (xmap b91 (([] : List (ByteArray × Bool)).map (kv Value.string Value.bool))::xblk b85 114 ([.map (some b80)])::xmap b80 (([] : List (ByteArray × Int)).map (kv Value.string (Value.int .u64)))::xrow Q11 Q12 9 1 (t5.flatMap encS)::xrow Q53 Q54 9 1 (t51.flatMap encS)::xmo Q13 (Q14.map (kv Value.string eVH))::xblk b34 109 ([.slice Q11 t5.length Q12,.map Q13,.map Q15])::xblk ba0_1c0 33 ([.pointer (some ⟨ba0_1c0v,0,none⟩)])::xblk ba0_1c0v 49 ([.map (some ba0_1c0vv_0),.map (some ba0_1c0vv_1),.map (some ba0_1c0vv_2),.bool t8])::xmap ba0_1c0vv_0 (t9.map (kv Value.string (Value.int .i64)))::xmap ba0_1c0vv_1 (a0_1c0vv_1m.map (kv Value.string (Value.int .i64)))::xmap ba0_1c0vv_2 (t10.map (kv Value.string (Value.int .i64)))::xblk ba0_1c1 26 ([.slice Aa0_1c1v_0 a0_1c1v.Next.length ca0_1c1v_0,.slice Aa0_1c1v_1 a0_1c1v.End.length ca0_1c1v_1,.slice Aa0_1c1v_2 a0_1c1v.Value.length ca0_1c1v_2,.int .i64 a0_1c1v.Start])::xblk b1 32 ([.string y9,.func (.func 28) #[] #[.pointer (some ⟨ba0_1c0,0,none⟩),.pointer (some ⟨ba0_1c1,0,none⟩)],.func (.func 31) #[] #[.pointer (some ⟨ba0_1c1,0,none⟩),.pointer (some ⟨ba0_1c0,0,none⟩)],.func (.func 32) #[] #[.pointer (some ⟨ba0_1c0,0,none⟩),.pointer (some ⟨ba0_1c1,0,none⟩)]])::fs) w92:=hS93
  refine rA 115 (.map none) [.map none] hS95 ?_
  intro b96 w97 hS98
  refine rS 115 (.tmp 10) (.tmp 37) 0 (.map (some b91)) [.map (some b91)] [.map (some b91)] hS98 ?_
  intro w100 hS101
  refine sR 5 [.inRegion (opsOf (cd20 [1,1,1,1,1,1,1,0,0])) [1],.code (cd20 [1,1,1,1,1,1,1,0,1]),.code (cd20 [1,1,1,1,1,1,1,1])] ?_
  obtain ⟨t102,hr106,hp107⟩:=bind_some' hp79
  have hS110:=hS101.pick5
  obtain ⟨Z111,hz112,hS113,hs114,-⟩:=hS110.lendrow len_encS (by omega)
  refine rC (slices_Backward___string_string.ok hr106 hS113 hs114) ?_
  rintro _ w115 ⟨Q103,Q104,Q105,rfl,hS116,hs117⟩
  refine ⟨_,rfl,?_⟩
  refine sR 2 [.code p20_38,.inBlock 0,.code (cd20 [1,1,1,1,1,1,1,1])] ?_
  refine Runs.fillG (m:=(mk 95 [(2,.pointer (some ⟨b1,0,none⟩)),(6,.pointer (some ⟨b34,0,none⟩)),(9,.pointer (some ⟨b85,0,none⟩)),(10,.pointer (some ⟨b96,0,none⟩)),(39,.func (.func 48) #[] #[.pointer (some ⟨Q103,0,none⟩)])])) (by kernel_rfl) ?_
  intro l118
  refine r_rangeF (c:=p20_38) (g:=(.tmp 39)) (ps:=#[40,41]) (am:=p20_0) (bd:=p20_1) (gf:=48) (caps:=#[.pointer (some ⟨Q103,0,none⟩)]) (args:=fun L => #[.func (.yield L) #[] #[],.pointer (some ⟨Q103,0,none⟩)]) [] hS116 (by kernel_rfl) (by kernel_rfl) (fun _ => (by kernel_rfl)) ?_
  intro D120 L119 w121 hS122
  have hS125 : St w0 Z111 (xlp L119 20 (fill (mk 95 [(2,.pointer (some ⟨b1,0,none⟩)),(6,.pointer (some ⟨b34,0,none⟩)),(9,.pointer (some ⟨b85,0,none⟩)),(10,.pointer (some ⟨b96,0,none⟩))]) (fill (mk 95 [(2,.pointer (some ⟨b1,0,none⟩)),(6,.pointer (some ⟨b34,0,none⟩)),(9,.pointer (some ⟨b85,0,none⟩)),(10,.pointer (some ⟨b96,0,none⟩)),(39,.func (.func 48) #[] #[.pointer (some ⟨Q103,0,none⟩)])]) l118)) #[40,41] p20_0 p20_1 D120 [] 0::xdef D120::xblk Q103 36 ([.slice Q104 t102.length Q105])::xblk b96 115 ([.map (some b91)])::xmap b91 (([] : List (ByteArray × Bool)).map (kv Value.string Value.bool))::xblk b85 114 ([.map (some b80)])::xmap b80 (([] : List (ByteArray × Int)).map (kv Value.string (Value.int .u64)))::xrow Q11 Q12 9 1 (t5.flatMap encS)::xmo Q13 (Q14.map (kv Value.string eVH))::xblk b34 109 ([.slice Q11 t5.length Q12,.map Q13,.map Q15])::xblk ba0_1c0 33 ([.pointer (some ⟨ba0_1c0v,0,none⟩)])::xblk ba0_1c0v 49 ([.map (some ba0_1c0vv_0),.map (some ba0_1c0vv_1),.map (some ba0_1c0vv_2),.bool t8])::xmap ba0_1c0vv_0 (t9.map (kv Value.string (Value.int .i64)))::xmap ba0_1c0vv_1 (a0_1c0vv_1m.map (kv Value.string (Value.int .i64)))::xmap ba0_1c0vv_2 (t10.map (kv Value.string (Value.int .i64)))::xblk ba0_1c1 26 ([.slice Aa0_1c1v_0 a0_1c1v.Next.length ca0_1c1v_0,.slice Aa0_1c1v_1 a0_1c1v.End.length ca0_1c1v_1,.slice Aa0_1c1v_2 a0_1c1v.Value.length ca0_1c1v_2,.int .i64 a0_1c1v.Start])::xblk b1 32 ([.string y9,.func (.func 28) #[] #[.pointer (some ⟨ba0_1c0,0,none⟩),.pointer (some ⟨ba0_1c1,0,none⟩)],.func (.func 31) #[] #[.pointer (some ⟨ba0_1c1,0,none⟩),.pointer (some ⟨ba0_1c0,0,none⟩)],.func (.func 32) #[] #[.pointer (some ⟨ba0_1c0,0,none⟩),.pointer (some ⟨ba0_1c1,0,none⟩)]])::fs) w121:=hS122
  obtain ⟨⟨t126,t127,t128,t129,t130⟩,hr131,hp132⟩:=bind_some' hp107
  try dsimp only at hp132
  have hS138:=hS125.pick7
  obtain ⟨Z139,hz140,hS141,hs142,hb143⟩:=hS138.lendrow len_encS (by omega)
  have hS144:=hS141.pick2
  have hS145:=hS144.pick4
  have hS146:=hS145.pick4
  have hS147:=hS146.pick6
  have hS148:=hS147.pick6
  have hS149:=hS148.pick7
  have hS150:=hS149.pick8
  have hS151:=hS150.pick14
  have hS152:=hS151.pick14
  have hS153:=hS152.pick14
  have hS154:=hS153.pick14
  have hS155:=hS154.pick14
  have hS156:=hS155.pick14
  have hS157:=hS156.pick15
  have hS158:=hS157.pick14
  refine ⟨_,(slices_Backward___string_string__1.ok y9 t9 a0_1c0vv_1m t10 t8 a0_1c1v t5 t6 ([] : List (ByteArray × Int)) ([] : List (ByteArray × Bool)) t102 L119 D120 (fill (mk 95 [(2,.pointer (some ⟨b1,0,none⟩)),(6,.pointer (some ⟨b34,0,none⟩)),(9,.pointer (some ⟨b85,0,none⟩)),(10,.pointer (some ⟨b96,0,none⟩)),(39,.func (.func 48) #[] #[.pointer (some ⟨Q103,0,none⟩)])]) l118) b1 ba0_1c0 ba0_1c0v ba0_1c0vv_0 ba0_1c0vv_1 ba0_1c0vv_2 ba0_1c1 Aa0_1c1v_0 ca0_1c1v_0 Aa0_1c1v_1 ca0_1c1v_1 Aa0_1c1v_2 ca0_1c1v_2 b34 Q11 Q12 Q13 Q14 Q15 b85 b80 b96 b91 Q103 Q104 Q105 hS158 (SlZ.mono (mono_repL (mono_flat _)) ha0_1c1v_0 (Zm.Le.trans hz32 (Zm.Le.trans hz112 hz140))) (ha0_1c1v_1.up (Zm.Le.trans hz32 (Zm.Le.trans hz112 hz140))) (ha0_1c1v_2.up (Zm.Le.trans hz32 (Zm.Le.trans hz112 hz140))) hs142 (MZ.up hs33 (Zm.Le.trans hz112 hz140)) (hs117.up hz140) hr131),?_⟩
  rintro _ w159 ⟨rfl,hS160⟩
  refine ⟨⟨_,rfl⟩,?_⟩
  have hS161:=hb143 _ _ hS160
  have hS162:=hS161.pick1
  obtain ⟨g163,hp164⟩:=ite_some hp132
  have hS165 : St w0 Z111 (xlp L119 20 (fill (mk 95 [(2,.pointer (some ⟨b1,0,none⟩)),(6,.pointer (some ⟨b34,0,none⟩)),(9,.pointer (some ⟨b85,0,none⟩)),(10,.pointer (some ⟨b96,0,none⟩))]) (fill (mk 95 [(2,.pointer (some ⟨b1,0,none⟩)),(6,.pointer (some ⟨b34,0,none⟩)),(9,.pointer (some ⟨b85,0,none⟩)),(10,.pointer (some ⟨b96,0,none⟩)),(39,.func (.func 48) #[] #[.pointer (some ⟨Q103,0,none⟩)])]) l118)) #[40,41] p20_0 p20_1 D120 [] 0::xrow Q11 Q12 9 1 (t5.flatMap encS)::xblk b1 32 ([.string y9,.func (.func 28) #[] #[.pointer (some ⟨ba0_1c0,0,none⟩),.pointer (some ⟨ba0_1c1,0,none⟩)],.func (.func 31) #[] #[.pointer (some ⟨ba0_1c1,0,none⟩),.pointer (some ⟨ba0_1c0,0,none⟩)],.func (.func 32) #[] #[.pointer (some ⟨ba0_1c0,0,none⟩),.pointer (some ⟨ba0_1c1,0,none⟩)]])::xblk ba0_1c0 33 ([.pointer (some ⟨ba0_1c0v,0,none⟩)])::xblk ba0_1c0v 49 ([.map (some ba0_1c0vv_0),.map (some ba0_1c0vv_1),.map (some ba0_1c0vv_2),.bool t127])::xmap ba0_1c0vv_0 (t9.map (kv Value.string (Value.int .i64)))::xmap ba0_1c0vv_1 (t128.map (kv Value.string (Value.int .i64)))::xmap ba0_1c0vv_2 (t10.map (kv Value.string (Value.int .i64)))::xblk ba0_1c1 26 ([.slice Aa0_1c1v_0 a0_1c1v.Next.length ca0_1c1v_0,.slice Aa0_1c1v_1 a0_1c1v.End.length ca0_1c1v_1,.slice Aa0_1c1v_2 a0_1c1v.Value.length ca0_1c1v_2,.int .i64 a0_1c1v.Start])::xblk b34 109 ([.slice Q11 t5.length Q12,.map Q13,.map Q15])::xmo Q13 (Q14.map (kv Value.string eVH))::xblk b85 114 ([.map (some b80)])::xmap b80 (t129.map (kv Value.string (Value.int .u64)))::xblk b96 115 ([.map (some b91)])::xmap b91 (t130.map (kv Value.string Value.bool))::xblk Q103 36 ([.slice Q104 t102.length Q105])::xdef D120::fs) w159:=by have h:=hS162; rw [g163] at h; exact h
  refine r_endF0 hS165 ?_
  intro w166 hS167
  refine sR 4 [iR p20_39 0 4,.code p20_40,.code p20_41] ?_
  refine rL1 115 (.tmp 10) 0 (hS167.blk 12 rfl) ?_
  refine sR 1 [.inRegion (opsOf p20_39) [2,3],.code p20_40,.code p20_41] ?_
  refine rL1 9 (.tmp 88) 0 (hS167.blk 1 rfl) ?_
  refine rV (.lookup 115 (.tmp 87) (.tmp 89) false) (.bool ((mget t130 y9).getD false)) (fun o ho _ => x_lookup1 (eK:=Value.string) (eV:=Value.bool) (dk:=.string) (b:=b91) (t:=115) (kt:=9) (et:=4) (m:=t130) (kk:=y9) (z:=false) (hS167.at 13 rfl) key_str (by kernel_rfl) (by kernel_rfl) (by kernel_rfl) (by kernel_rfl) (by kernel_rfl) ho) ?_
  refine r_split ((mget t130 y9).getD false) (fun h168 => ?_) (fun h169 => ?_)
  ·have hp170:=ite_t hp164 h168
   refine sR 7 [.code (cd20 [1,1,1,1,1,1,1,1,0,1,0,1]),.code p20_41] ?_
   refine runsC_ret (fn:=Try.f20) Try.func20 ?_
   have hS171:=hS167.pick15
   refine leavesC_cons hS171 ?_
   intro w172 hS173
   have hS174:=hS173.drop
   have hS175:=hS174.drop
   have hS176:=hS175.pick6
   have hS177:=hS176.drop
   have hS178:=hS177.pick6
   have hS179:=hS178.drop
   have hS180:=hS179.pick6
   have hS181:=hS180.drop
   have hS182:=hS181.pick6
   have hS183:=hS182.drop
   have hS184:=hS183.pick6
   have hS185:=hS184.drop
   have hS186:=hS185.pick6
   have hS187:=hS186.drop
   have hS188:=hS187.pick6
   have hS189:=hS188.drop
   have hS190:=hS189.less (Zm.Le.trans hz32 hz112)
   refine leavesC_nil (v:=.tuple #[.int .u64 0,.int .i64 30]) (by kernel_rfl) ?_
   cases Option.some.inj hp170
   exact hR _ _ ⟨rfl,hS190⟩
  have hp192:=ite_f hp164 h169
  refine sR 5 [iR p20_43 0 6,.code p20_44] ?_
  refine rL1 114 (.tmp 9) 0 (hS167.blk 10 rfl) ?_
  refine sR 1 [iR p20_43 2 4,.code p20_44] ?_
  refine rL1 9 (.tmp 92) 0 (hS167.blk 1 rfl) ?_
  refine rV (.lookup 114 (.tmp 91) (.tmp 93) false) (.int .u64 ((mget t129 y9).getD (0 : Int))) (fun o ho _ => x_lookup1 (eK:=Value.string) (eV:=(Value.int .u64)) (dk:=.string) (b:=b80) (t:=114) (kt:=9) (et:=63) (m:=t129) (kk:=y9) (z:=(0 : Int)) (hS167.at 11 rfl) key_str (by kernel_rfl) (by kernel_rfl) (by kernel_rfl) (by kernel_rfl) (by kernel_rfl) ho) ?_
  refine sR 3 [.code p20_44] ?_
  refine runsC_ret (fn:=Try.f20) Try.func20 ?_
  have hS193:=hS167.pick15
  refine leavesC_cons hS193 ?_
  intro w194 hS195
  have hS196:=hS195.drop
  have hS197:=hS196.drop
  have hS198:=hS197.pick6
  have hS199:=hS198.drop
  have hS200:=hS199.pick6
  have hS201:=hS200.drop
  have hS202:=hS201.pick6
  have hS203:=hS202.drop
  have hS204:=hS203.pick6
  have hS205:=hS204.drop
  have hS206:=hS205.pick6
  have hS207:=hS206.drop
  have hS208:=hS207.pick6
  have hS209:=hS208.drop
  have hS210:=hS209.pick6
  have hS211:=hS210.drop
  have hS212:=hS211.less (Zm.Le.trans hz32 hz112)
  refine leavesC_nil (v:=.tuple #[.int .u64 ((mget t129 y9).getD (0 : Int)),.int .i64 0]) (by kernel_rfl) ?_
  cases Option.some.inj hp192
  exact hR _ _ ⟨rfl,hS212⟩

noncomputable def cd33 (p : List Nat) : Code := sub (bodyOf Try.f33) p
abbrev p33_9:=cd33 [1,1,1,1]
abbrev p33_13:=cd33 [1,1,1,1,0]
abbrev p33_14:=cd33 [1,1,1,1,1]
abbrev p33_15:=cd33 [1,1,1,1,1,0]
abbrev p33_17:=cd33 [1,1,1,1,1,1,0]
abbrev p33_18:=cd33 [1,1,1,1,1,1,1]
abbrev p33_19:=cd33 [1,1,1,1,1,1,1,0]
abbrev p33_20:=cd33 [1,1,1,1,1,1,1,1]
abbrev p33_21:=cd33 [1,1,1,1,1,1,1,1,0]
abbrev p33_22:=cd33 [1,1,1,1,1,1,1,1,1]
abbrev p33_23:=cd33 [1,1,1,1,1,1,1,1,1,0]
abbrev p33_24:=cd33 [1,1,1,1,1,1,1,1,1,1]
abbrev p33_25:=cd33 [1,1,1,1,1,1,1,1,1,1,0]
abbrev p33_27:=cd33 [1,1,1,1,1,1,1,1,1,1,1,0]
abbrev p33_28:=cd33 [1,1,1,1,1,1,1,1,1,1,1,1]
abbrev p33_29:=cd33 [1,1,1,1,1,1,1,1,1,1,1,1,0]
abbrev p33_32:=cd33 [1,1,1,1,1,1,1,1,1,1,1,1,1,1]
abbrev td92:List Item:=[.code (cd33 [1,1,0,1]),.code (cd33 [1,1,1])]
abbrev td93:List Item:=.code (cd33 [1,1,0,0])::td92
def weirref14_Graph__put.f (y29 : List ByteArray) (y30 : List Int) (y31 : List (List weirref14_Move)) (y32 : List Bool) (y33 : List api_Final) (y34 : List Int) (y35 : List api_Pick) (y36 : Bool) (a0v_8m : List (ByteArray × Int)) (y37 : ByteArray) (a1_1c0vv_0m a1_1c0vv_1m a1_1c0vv_2m : List (ByteArray × Int)) (a1_1c0vv_3 : Bool) (a1_1c1v : weirlaw14_Net) (a2 : Int) (a3 : ByteArray) (a4 a5 : Int) (a6 : api_Pick) : Option (Int × (List ByteArray) × (List Int) × (List (List weirref14_Move)) × (List Bool) × (List api_Final) × (List Int) × (List api_Pick) × Bool × (List (ByteArray × Int)) × Bool × (List (ByteArray × Int))) :=
  (((if (mget a0v_8m a3).isSome = true then some ((((mget a0v_8m a3).getD (0 : Int)),true)) else some ((((mget a0v_8m a3).getD (0 : Int)),false))) : Option (Int × Bool)) >>= (fun (t12,t13) => (if t13 = true then some ((t12,y29,y30,y31,y32,y33,y34,y35,y36,a0v_8m,a1_1c0vv_3,a1_1c0vv_1m)) else (if (decide ((y29.length : Int) ≥ a2)) = true then some (((-1),y29,y30,y31,y32,y33,y34,y35,false,a0v_8m,a1_1c0vv_3,a1_1c0vv_1m)) else (weirlaw14_Net__machine_3.f a3 a1_1c0vv_0m a1_1c0vv_1m a1_1c0vv_2m a1_1c0vv_3 a1_1c1v >>= (fun (t46,t47,t48,t49) => (if (y29.length + ([a3] : List ByteArray).length) * 16 ≤ 140737488355328 then (if (y30.length + ([a4] : List Int).length) * 8 ≤ 140737488355328 then (if (y31.length + 1) * 24 ≤ 140737488355328 then (if (y32.length + ([t47] : List Bool).length) * 1 ≤ 140737488355328 then (if (y33.length + ([t46] : List api_Final).length) * 392 ≤ 140737488355328 then (if (y34.length + ([a5] : List Int).length) * 8 ≤ 140737488355328 then (if (y35.length + ([a6] : List api_Pick).length) * 24 ≤ 140737488355328 then some (((IntKind.i64.wrap (((y29 ++ ([a3] : List ByteArray)).length : Int) - 1)),(y29 ++ ([a3] : List ByteArray)),(y30 ++ ([a4] : List Int)),(y31 ++ [([] : List weirref14_Move)]),(y32 ++ ([t47] : List Bool)),(y33 ++ ([t46] : List api_Final)),(y34 ++ ([a5] : List Int)),(y35 ++ ([a6] : List api_Pick)),y36,(mput a0v_8m a3 (y29.length : Int)),t48,t49)) else none) else none) else none) else none) else none) else none) else none)))))))
theorem weirref14_Graph__put.ok {y29 : List ByteArray} {y30 : List Int} {y31 : List (List weirref14_Move)} {y32 : List Bool} {y33 : List api_Final} {y34 : List Int} {y35 : List api_Pick} {y36 : Bool} {a0v_8m : List (ByteArray × Int)} {y37 : ByteArray} {a1_1c0vv_0m a1_1c0vv_1m a1_1c0vv_2m : List (ByteArray × Int)} {a1_1c0vv_3 : Bool} {a1_1c1v : weirlaw14_Net} {a2 : Int} {a3 : ByteArray} {a4 a5 : Int} {a6 : api_Pick} {ba0 : Nat} {y38 : Option Addr} {y39 : Nat} {y40 : Option Addr} {y41 : Nat} {y42 : Option Addr} {y43 : Nat} {y44 : Nat → Option Addr × Nat} {y45 : Option Addr} {y46 : Nat} {y47 : Option Addr} {y48 : Nat} {y49 : Option Addr} {y50 : Nat} {y51 : Option Addr} {y52 y53 : Nat} {ba1_1c0 ba1_1c0v : Nat} {ba1_1c0vv_0 ba1_1c0vv_1 : Nat} {ba1_1c0vv_2 ba1_1c1 : Nat} {Aa1_1c1v_0 : Option Addr} {ca1_1c1v_0 : Nat} {Aa1_1c1v_1 : Option Addr} {ca1_1c1v_1 : Nat} {Aa1_1c1v_2 : Option Addr} {ca1_1c1v_2 : Nat} {q0 : Int} {q1 : List ByteArray} {q2 : List Int} {q3 : List (List weirref14_Move)} {q4 : List Bool} {q5 : List api_Final} {q6 : List Int} {q7 : List api_Pick} {q8 : Bool} {q9 : List (ByteArray × Int)} {q10 : Bool} {q11 : List (ByteArray × Int)} (hp0 : weirref14_Graph__put.f y29 y30 y31 y32 y33 y34 y35 y36 a0v_8m y37 a1_1c0vv_0m a1_1c0vv_1m a1_1c0vv_2m a1_1c0vv_3 a1_1c1v a2 a3 a4 a5 a6 = some (q0,q1,q2,q3,q4,q5,q6,q7,q8,q9,q10,q11)) (hS0 : St w0 Z (xblk ba0 43 ([.slice y38 y29.length y39,.slice y40 y30.length y41,.slice y42 y31.length y43,.slice y45 y32.length y46,.slice y47 y33.length y48,.slice y49 y34.length y50,.slice y51 y35.length y52,.bool y36,.map (some y53)])::xrow y38 y39 9 1 (y29.flatMap encS)::xrow y40 y41 3 1 (y30.flatMap (encI .i64))::xrr y42 y43 93 y44 95 4 enc_weirref14_Move y31::xrow y45 y46 4 1 (y32.flatMap encB)::xrow y47 y48 84 49 (y33.flatMap enc_api_Final)::xrow y49 y50 3 1 (y34.flatMap (encI .i64))::xrow y51 y52 88 3 (y35.flatMap enc_api_Pick)::xmap y53 (a0v_8m.map (kv Value.string (Value.int .i64)))::xblk ba1_1c0 33 ([.pointer (some ⟨ba1_1c0v,0,none⟩)])::xblk ba1_1c0v 49 ([.map (some ba1_1c0vv_0),.map (some ba1_1c0vv_1),.map (some ba1_1c0vv_2),.bool a1_1c0vv_3])::xmap ba1_1c0vv_0 (a1_1c0vv_0m.map (kv Value.string (Value.int .i64)))::xmap ba1_1c0vv_1 (a1_1c0vv_1m.map (kv Value.string (Value.int .i64)))::xmap ba1_1c0vv_2 (a1_1c0vv_2m.map (kv Value.string (Value.int .i64)))::xblk ba1_1c1 26 ([.slice Aa1_1c1v_0 a1_1c1v.Next.length ca1_1c1v_0,.slice Aa1_1c1v_1 a1_1c1v.End.length ca1_1c1v_1,.slice Aa1_1c1v_2 a1_1c1v.Value.length ca1_1c1v_2,.int .i64 a1_1c1v.Start])::fs) w) (ha1_1c1v_0 : SlZ (repL (flat (encI .i64)) 1) 1 Z Aa1_1c1v_0 ca1_1c1v_0 a1_1c1v.Next) (ha1_1c1v_1 : SlZ (flat encB) 1 Z Aa1_1c1v_1 ca1_1c1v_1 a1_1c1v.End) (ha1_1c1v_2 : SlZ (flat (encI .i64)) 1 Z Aa1_1c1v_2 ca1_1c1v_2 a1_1c1v.Value) :
    Calls Try.prog 33 #[.pointer (some ⟨ba0,0,none⟩),.agg #[.string y37,.func (.func 28) #[] #[.pointer (some ⟨ba1_1c0,0,none⟩),.pointer (some ⟨ba1_1c1,0,none⟩)],.func (.func 31) #[] #[.pointer (some ⟨ba1_1c1,0,none⟩),.pointer (some ⟨ba1_1c0,0,none⟩)],.func (.func 32) #[] #[.pointer (some ⟨ba1_1c0,0,none⟩),.pointer (some ⟨ba1_1c1,0,none⟩)]],.int .i64 a2,.string a3,.int .i64 a4,.int .i64 a5,.agg (enc_api_Pick a6).toArray] w (fun e w' => ∃ (QA0 : Option Addr) (Qc0 : Nat) (QA2 : Option Addr) (Qc2 : Nat) (QA4 : Option Addr) (Qc4 : Nat) (Qh4 : Nat → Option Addr × Nat) (QA7 : Option Addr) (Qc7 : Nat) (QA9 : Option Addr) (Qc9 : Nat) (QA11 : Option Addr) (Qc11 : Nat) (QA13 : Option Addr) (Qc13 : Nat),e = .returned (.int .i64 q0) ∧ St w0 Z (xrow QA0 Qc0 9 1 (q1.flatMap encS)::xrow QA2 Qc2 3 1 (q2.flatMap (encI .i64))::xrr QA4 Qc4 93 Qh4 95 4 enc_weirref14_Move q3::xrow QA7 Qc7 4 1 (q4.flatMap encB)::xrow QA9 Qc9 84 49 (q5.flatMap enc_api_Final)::xrow QA11 Qc11 3 1 (q6.flatMap (encI .i64))::xrow QA13 Qc13 88 3 (q7.flatMap enc_api_Pick)::xblk ba0 43 ([.slice QA0 q1.length Qc0,.slice QA2 q2.length Qc2,.slice QA4 q3.length Qc4,.slice QA7 q4.length Qc7,.slice QA9 q5.length Qc9,.slice QA11 q6.length Qc11,.slice QA13 q7.length Qc13,.bool q8,.map (some y53)])::xmap y53 (q9.map (kv Value.string (Value.int .i64)))::xblk ba1_1c0 33 ([.pointer (some ⟨ba1_1c0v,0,none⟩)])::xblk ba1_1c0v 49 ([.map (some ba1_1c0vv_0),.map (some ba1_1c0vv_1),.map (some ba1_1c0vv_2),.bool q10])::xmap ba1_1c0vv_0 (a1_1c0vv_0m.map (kv Value.string (Value.int .i64)))::xmap ba1_1c0vv_1 (q11.map (kv Value.string (Value.int .i64)))::xmap ba1_1c0vv_2 (a1_1c0vv_2m.map (kv Value.string (Value.int .i64)))::xblk ba1_1c1 26 ([.slice Aa1_1c1v_0 a1_1c1v.Next.length ca1_1c1v_0,.slice Aa1_1c1v_1 a1_1c1v.End.length ca1_1c1v_1,.slice Aa1_1c1v_2 a1_1c1v.Value.length ca1_1c1v_2,.int .i64 a1_1c1v.Start])::fs) w'):=by
  refine calls_abs ?_; intro R hR
  unfold weirref14_Graph__put.f at hp0
  refine calls_of_runs (fn:=Try.f33) (c:=cd33 []) Try.func33 (by kernel_rfl) (al:=[.pointer (some ⟨ba0,0,none⟩),.agg #[.string y37,.func (.func 28) #[] #[.pointer (some ⟨ba1_1c0,0,none⟩),.pointer (some ⟨ba1_1c1,0,none⟩)],.func (.func 31) #[] #[.pointer (some ⟨ba1_1c1,0,none⟩),.pointer (some ⟨ba1_1c0,0,none⟩)],.func (.func 32) #[] #[.pointer (some ⟨ba1_1c0,0,none⟩),.pointer (some ⟨ba1_1c1,0,none⟩)]],.int .i64 a2,.string a3,.int .i64 a4,.int .i64 a5,.agg (enc_api_Pick a6).toArray]) rfl (n:=125) rfl ?_
  refine sR 2 [.inRegion (opsOf (cd33 [0])) [0,1,2],.code (cd33 [1])] ?_
  refine r_box (c:=(cd33 [0])) (i:=0) (d:=(some 8)) (ty:=0) (x:=(.tmp 1)) (v:=.agg #[.string y37,.func (.func 28) #[] #[.pointer (some ⟨ba1_1c0,0,none⟩),.pointer (some ⟨ba1_1c1,0,none⟩)],.func (.func 31) #[] #[.pointer (some ⟨ba1_1c1,0,none⟩),.pointer (some ⟨ba1_1c0,0,none⟩)],.func (.func 32) #[] #[.pointer (some ⟨ba1_1c0,0,none⟩),.pointer (some ⟨ba1_1c1,0,none⟩)]]) (t:=32) (cs:=[.string y37,.func (.func 28) #[] #[.pointer (some ⟨ba1_1c0,0,none⟩),.pointer (some ⟨ba1_1c1,0,none⟩)],.func (.func 31) #[] #[.pointer (some ⟨ba1_1c1,0,none⟩),.pointer (some ⟨ba1_1c0,0,none⟩)],.func (.func 32) #[] #[.pointer (some ⟨ba1_1c0,0,none⟩),.pointer (some ⟨ba1_1c1,0,none⟩)]]) hS0 (by kernel_rfl) (by kernel_rfl) (by kernel_rfl) (by kernel_rfl) ?_
  intro b1 w2 hS3
  refine r_box (c:=(cd33 [0])) (i:=1) (d:=(some 13)) (ty:=0) (x:=(.tmp 6)) (v:=.agg (enc_api_Pick a6).toArray) (t:=88) (cs:=enc_api_Pick a6) hS3 (by kernel_rfl) (by kernel_rfl) (by kernel_rfl) (by kernel_rfl) ?_
  intro b5 w6 hS7
  refine sR 7 [iR (cd33 [1,0]) 3 8,.code (cd33 [1,1])] ?_
  refine rL1 41 (.tmp 22) 8 (hS7.blk 2 rfl) ?_
  refine sR 1 [iR (cd33 [1,0]) 5 6,.code (cd33 [1,1])] ?_
  refine rV (.lookup 41 (.tmp 23) (.tmp 24) true) (.tuple #[.int .i64 ((mget a0v_8m a3).getD (0 : Int)),.bool ((mget a0v_8m a3).isSome)]) (fun o ho _ => x_lookup2 (eK:=Value.string) (eV:=(Value.int .i64)) (dk:=.string) (b:=y53) (t:=41) (kt:=9) (et:=3) (m:=a0v_8m) (kk:=a3) (z:=(0 : Int)) (hS7.at 10 rfl) key_str (by kernel_rfl) (by kernel_rfl) (by kernel_rfl) (by kernel_rfl) (by kernel_rfl) ho) ?_
  obtain ⟨v9,hv10,hp11⟩:=bind_some' hp0
  have J16 : ∀ (t12 : Int) (t13 : Bool) (he18 : (t12,t13) = v9) (l17 : List Value) (w14 : World) (hS15 : St w0 Z (xblk ba0 43 ([.slice y38 y29.length y39,.slice y40 y30.length y41,.slice y42 y31.length y43,.slice y45 y32.length y46,.slice y47 y33.length y48,.slice y49 y34.length y50,.slice y51 y35.length y52,.bool y36,.map (some y53)])::xrow y38 y39 9 1 (y29.flatMap encS)::xrow y40 y41 3 1 (y30.flatMap (encI .i64))::xrr y42 y43 93 y44 95 4 enc_weirref14_Move y31::xrow y45 y46 4 1 (y32.flatMap encB)::xrow y47 y48 84 49 (y33.flatMap enc_api_Final)::xrow y49 y50 3 1 (y34.flatMap (encI .i64))::xrow y51 y52 88 3 (y35.flatMap enc_api_Pick)::xmap y53 (a0v_8m.map (kv Value.string (Value.int .i64)))::xblk b1 32 ([.string y37,.func (.func 28) #[] #[.pointer (some ⟨ba1_1c0,0,none⟩),.pointer (some ⟨ba1_1c1,0,none⟩)],.func (.func 31) #[] #[.pointer (some ⟨ba1_1c1,0,none⟩),.pointer (some ⟨ba1_1c0,0,none⟩)],.func (.func 32) #[] #[.pointer (some ⟨ba1_1c0,0,none⟩),.pointer (some ⟨ba1_1c1,0,none⟩)]])::xblk ba1_1c0 33 ([.pointer (some ⟨ba1_1c0v,0,none⟩)])::xblk ba1_1c0v 49 ([.map (some ba1_1c0vv_0),.map (some ba1_1c0vv_1),.map (some ba1_1c0vv_2),.bool a1_1c0vv_3])::xmap ba1_1c0vv_0 (a1_1c0vv_0m.map (kv Value.string (Value.int .i64)))::xmap ba1_1c0vv_1 (a1_1c0vv_1m.map (kv Value.string (Value.int .i64)))::xmap ba1_1c0vv_2 (a1_1c0vv_2m.map (kv Value.string (Value.int .i64)))::xblk ba1_1c1 26 ([.slice Aa1_1c1v_0 a1_1c1v.Next.length ca1_1c1v_0,.slice Aa1_1c1v_1 a1_1c1v.End.length ca1_1c1v_1,.slice Aa1_1c1v_2 a1_1c1v.Value.length ca1_1c1v_2,.int .i64 a1_1c1v.Start])::xblk b5 88 (enc_api_Pick a6)::fs) w14),Runs Try.prog (fx 33) td93 (fill (mk 132 [(0,.pointer (some ⟨ba0,0,none⟩)),(2,.int .i64 a2),(3,.string a3),(4,.int .i64 a4),(5,.int .i64 a5),(8,.pointer (some ⟨b1,0,none⟩)),(13,.pointer (some ⟨b5,0,none⟩)),(15,.int .i64 t12),(16,.bool t13)]) l17) w14 R:=by
   intro t12 t13 he18 l17 w14 hS15
   subst he18
   try dsimp only at hp11
   refine sR 3 td92 ?_
   cases t13
   ·have hp19:=ite_f hp11 rfl
    refine sR 8 [iR (cd33 [1,1,1,0,0]) 3 4,.code (cd33 [1,1,1,0,1]),.code p33_9] ?_
    refine rL1 36 (.tmp 32) 0 (hS15.blk 0 rfl) ?_
    refine sI 3 [.inRegion (opsOf (cd33 [1,1,1,0,0])) [],.code (cd33 [1,1,1,0,1]),.code p33_9] 36 hp19 (fun hp22 => ?_) fun hp45 => ?_
    ·refine sR 7 [.inRegion (opsOf (cd33 [1,1,1,0,1,0,0])) [3],.code (cd33 [1,1,1,0,1,0,1]),.code p33_9] ?_
     refine rS 4 (.tmp 39) (.const (.bool false)) 7 (.bool false) [.bool false] [.slice y38 y29.length y39,.slice y40 y30.length y41,.slice y42 y31.length y43,.slice y45 y32.length y46,.slice y47 y33.length y48,.slice y49 y34.length y50,.slice y51 y35.length y52,.bool false,.map (some y53)] hS15 ?_
     intro w23 hS24
     refine sR 5 [.code (cd33 [1,1,1,0,1,0,1,1]),.code p33_9] ?_
     have hS25:=hS24.pick9
     have hS26:=hS25.drop
     have hS27:=hS26.pick15
     have hS28:=hS27.drop
     have hS29:=hS28.pick14
     have hS30:=hS29.pick14
     have hS31:=hS30.pick14
     have hS32:=hS31.pick14
     have hS33:=hS32.pick14
     have hS34:=hS33.pick14
     have hS35:=hS34.pick14
     have hS36:=hS35.pick7
     have hS37:=hS36.pick14
     have hS38:=hS37.pick14
     have hS39:=hS38.pick14
     have hS40:=hS39.pick14
     have hS41:=hS40.pick14
     have hS42:=hS41.pick14
     have hS43:=hS42.pick14
     refine rR (.int .i64 (-1)) Try.func33 ?_
     cases Option.some.inj hp22
     exact hR _ _ ⟨y38,y39,y40,y41,y42,y43,(y44),y45,y46,y47,y48,y49,y50,y51,y52,rfl,hS43⟩
    refine sR 6 [iR p33_13 1 9,.code p33_14] ?_
    refine rL1 30 (.tmp 41) 3 (hS15.blk 9 rfl) ?_
    refine sR 1 [iR p33_13 3 7,.code p33_14] ?_
    obtain ⟨⟨t46,t47,t48,t49⟩,hr50,hp51⟩:=bind_some' hp45
    try dsimp only at hp51
    have hS55:=hS15.pick15
    have hS56:=hS55.pick15
    have hS57:=hS56.pick15
    have hS58:=hS57.pick15
    have hS59:=hS58.pick15
    have hS60:=hS59.pick15
    refine rC (weirlaw14_Net__machine_3.ok hr50 hS60 ha1_1c1v_0 ha1_1c1v_1 ha1_1c1v_2) ?_
    rintro _ w61 ⟨rfl,hS62⟩
    refine ⟨_,rfl,?_⟩
    refine sR 3 [.inRegion (opsOf p33_13) [7,8,9],.code p33_14] ?_
    refine rA 84 (.agg (enc_api_Final (⟨0,(Vector.replicate 48 0)⟩ : api_Final)).toArray) (enc_api_Final (⟨0,(Vector.replicate 48 0)⟩ : api_Final)) hS62 ?_
    intro b63 w64 hS65
    refine r_store (c:=p33_13) (i:=8) (d:=none) (ty:=0) (t:=84) (x:=(.tmp 17)) (y:=(.tmp 45)) (b:=b63) (o:=0) (e:=84) (cs:=enc_api_Final (⟨0,(Vector.replicate 48 0)⟩ : api_Final)) (v:=.agg (enc_api_Final t46).toArray) (vs:=enc_api_Final t46) (cs':=enc_api_Final t46) hS65 (by kernel_rfl) (by kernel_rfl) (by kernel_rfl) (by kernel_rfl) (by kernel_rfl) (lenK (len_api_Final _) (by kernel_rfl)) (one_api_Final _) (by simp only [len_api_Final,List.length_cons,List.length_nil,List.length_append]; omega) (over_all ((len_api_Final _).trans (len_api_Final _).symm)) ?_
    intro w67 hS68
    refine sR 3 [.code p33_15,.code (cd33 [1,1,1,1,1,1])] ?_
    refine r_drawn3 (C:=St w0 Z (xblk b63 84 (enc_api_Final t46)::xblk ba1_1c0 33 ([.pointer (some ⟨ba1_1c0v,0,none⟩)])::xblk ba1_1c0v 49 ([.map (some ba1_1c0vv_0),.map (some ba1_1c0vv_1),.map (some ba1_1c0vv_2),.bool t48])::xmap ba1_1c0vv_0 (a1_1c0vv_0m.map (kv Value.string (Value.int .i64)))::xmap ba1_1c0vv_1 (t49.map (kv Value.string (Value.int .i64)))::xmap ba1_1c0vv_2 (a1_1c0vv_2m.map (kv Value.string (Value.int .i64)))::xblk ba1_1c1 26 ([.slice Aa1_1c1v_0 a1_1c1v.Next.length ca1_1c1v_0,.slice Aa1_1c1v_1 a1_1c1v.End.length ca1_1c1v_1,.slice Aa1_1c1v_2 a1_1c1v.Value.length ca1_1c1v_2,.int .i64 a1_1c1v.Start])::xblk ba0 43 ([.slice y38 y29.length y39,.slice y40 y30.length y41,.slice y42 y31.length y43,.slice y45 y32.length y46,.slice y47 y33.length y48,.slice y49 y34.length y50,.slice y51 y35.length y52,.bool y36,.map (some y53)])::xrow y38 y39 9 1 (y29.flatMap encS)::xrow y40 y41 3 1 (y30.flatMap (encI .i64))::xrr y42 y43 93 y44 95 4 enc_weirref14_Move y31::xrow y45 y46 4 1 (y32.flatMap encB)::xrow y47 y48 84 49 (y33.flatMap enc_api_Final)::xrow y49 y50 3 1 (y34.flatMap (encI .i64))::xrow y51 y52 88 3 (y35.flatMap enc_api_Pick)::xmap y53 (a0v_8m.map (kv Value.string (Value.int .i64)))::xblk b1 32 ([.string y37,.func (.func 28) #[] #[.pointer (some ⟨ba1_1c0,0,none⟩),.pointer (some ⟨ba1_1c1,0,none⟩)],.func (.func 31) #[] #[.pointer (some ⟨ba1_1c1,0,none⟩),.pointer (some ⟨ba1_1c0,0,none⟩)],.func (.func 32) #[] #[.pointer (some ⟨ba1_1c0,0,none⟩),.pointer (some ⟨ba1_1c1,0,none⟩)]])::xblk b5 88 (enc_api_Pick a6)::fs)) (c:=p33_15) (id:=8) (by kernel_rfl) (by kernel_rfl) 10 (Nat.le_of_ble_eq_true (by kernel_rfl)) (by kernel_rfl) (by kernel_rfl) (by kernel_rfl) (is:=[0,1,2,3,4,5,6,7,8,9]) (rest:=[10]) (by kernel_rfl) (by kernel_rfl) hS68.drew ?_
    refine qR 3 (rg 3 7) ?_
    refine qL1 41 (.tmp 49) 8 (fun w hC => (hC.blk 7 rfl)) ?_
    refine qR 4 [8,9] ?_
    refine qL1 36 (.tmp 54) 0 (fun w hC => (hC.blk 7 rfl)) ?_
    refine qR 1 [] ?_
    refine Qs.nil ?_
    intro w69 hS70
    have hS71:=hS70.pick15
    refine r_mapUpdate (c:=p33_15) (i:=10) (d:=none) (ty:=0) (eK:=Value.string) (eV:=(Value.int .i64)) (dk:=.string) (b:=y53) (t:=41) (kt:=9) (et:=3) (x:=(.tmp 50)) (y:=(.tmp 51)) (z:=(.tmp 56)) (m:=a0v_8m) (kk:=a3) (v:=(y29.length : Int)) hS71 (by kernel_rfl) (by kernel_rfl) key_str (by kernel_rfl) (by kernel_rfl) (by kernel_rfl) (by kernel_rfl) (by kernel_rfl) ?_
    intro w72 hS73
    refine sR 7 [iR p33_17 4 7,.code p33_18] ?_
    refine rL1 36 (.tmp 60) 0 (hS73.blk 8 rfl) ?_
    refine sR 1 [iR p33_17 6 5,.code p33_18] ?_
    refine r_lit (c:=p33_17) (i:=6) (d:=(some 63)) (ty:=36) (t:=36) (e:=9) (sz:=1) (n:=1) (parts:=#[(0,(.tmp 62))]) (vs:=[(0,.string a3)]) (z:=zeroOf Try.prog 9) (cs':=([a3] : List ByteArray).flatMap encS) hS73 (by kernel_rfl) (by kernel_rfl) (by kernel_rfl) (by kernel_rfl) (by kernel_rfl) (by decide) (by decide) (by kernel_rfl) rfl (Parts.cons (c:=[.string a3]) (by kernel_rfl) rfl Parts.nil) rfl ?_
    intro b75 w76 hS77
    have hS78:=hS77.pick10
    obtain ⟨g79,hp80⟩:=ite_some hp51
    refine r_append (c:=p33_17) (i:=7) (d:=(some 64)) (ty:=36) (enc:=encS) (e:=9) (u:=9) (t:=36) (t2:=36) (sz:=1) (cp:=y39) (A:=y38) (bytes:=16) (xs:=y29) (ys:=([a3] : List ByteArray)) (s:=(.tmp 61)) (x:=(.tmp 63)) (xv:=.slice (some ⟨b75,0,none⟩) ([a3] : List ByteArray).length 1) (info:=infoOf Try.prog 9) (z:=zeroOf Try.prog 9) (ycs:=([a3] : List ByteArray).flatMap encS) hS78 (by kernel_rfl) (by kernel_rfl) (by kernel_rfl) (by kernel_rfl) (by kernel_rfl) (.inl (by kernel_rfl)) (by kernel_rfl) (by kernel_rfl) (by kernel_rfl) (by kernel_rfl) (by kernel_rfl) (by omega) len_encS one_encS (src_row (hS78.row 1 rfl) (by omega) len_encS) rfl g79 (by omega) ?_
    intro A81 c82 w83 hS84
    refine sR 2 [.inRegion (opsOf p33_17) [10],.code p33_18] ?_
    have hS86:=hS84.pick10
    refine rS 36 (.tmp 66) (.tmp 64) 0 (.slice A81 (y29 ++ ([a3] : List ByteArray)).length c82) [.slice A81 (y29 ++ ([a3] : List ByteArray)).length c82] [.slice A81 (y29 ++ ([a3] : List ByteArray)).length c82,.slice y40 y30.length y41,.slice y42 y31.length y43,.slice y45 y32.length y46,.slice y47 y33.length y48,.slice y49 y34.length y50,.slice y51 y35.length y52,.bool y36,.map (some y53)] hS86 ?_
    intro w87 hS88
    refine sR 7 [iR p33_19 4 7,.code p33_20] ?_
    refine rL1 37 (.tmp 70) 1 (hS88.blk 0 rfl) ?_
    refine sR 1 [iR p33_19 6 5,.code p33_20] ?_
    refine r_lit (c:=p33_19) (i:=6) (d:=(some 73)) (ty:=37) (t:=37) (e:=3) (sz:=1) (n:=1) (parts:=#[(0,(.tmp 72))]) (vs:=[(0,.int .i64 a4)]) (z:=zeroOf Try.prog 3) (cs':=([a4] : List Int).flatMap (encI .i64)) hS88 (by kernel_rfl) (by kernel_rfl) (by kernel_rfl) (by kernel_rfl) (by kernel_rfl) (by decide) (by decide) (by kernel_rfl) rfl (Parts.cons (c:=[.int .i64 a4]) (by kernel_rfl) rfl Parts.nil) rfl ?_
    intro b90 w91 hS92
    have hS93:=hS92.pick12
    obtain ⟨g94,hp95⟩:=ite_some hp80
    refine r_append (c:=p33_19) (i:=7) (d:=(some 74)) (ty:=37) (enc:=(encI .i64)) (e:=3) (u:=3) (t:=37) (t2:=37) (sz:=1) (cp:=y41) (A:=y40) (bytes:=8) (xs:=y30) (ys:=([a4] : List Int)) (s:=(.tmp 71)) (x:=(.tmp 73)) (xv:=.slice (some ⟨b90,0,none⟩) ([a4] : List Int).length 1) (info:=infoOf Try.prog 3) (z:=zeroOf Try.prog 3) (ycs:=([a4] : List Int).flatMap (encI .i64)) hS93 (by kernel_rfl) (by kernel_rfl) (by kernel_rfl) (by kernel_rfl) (by kernel_rfl) (.inl (by kernel_rfl)) (by kernel_rfl) (by kernel_rfl) (by kernel_rfl) (by kernel_rfl) (by kernel_rfl) (by omega) (len_encI .i64) (one_encI .i64) (src_row (hS93.row 1 rfl) (by omega) (len_encI .i64)) rfl g94 (by omega) ?_
    intro A96 c97 w98 hS99
    refine sR 2 [.inRegion (opsOf p33_19) [10],.code p33_20] ?_
    have hS101:=hS99.pick2
    refine rS 37 (.tmp 76) (.tmp 74) 1 (.slice A96 (y30 ++ ([a4] : List Int)).length c97) [.slice A96 (y30 ++ ([a4] : List Int)).length c97] [.slice A81 (y29 ++ ([a3] : List ByteArray)).length c82,.slice A96 (y30 ++ ([a4] : List Int)).length c97,.slice y42 y31.length y43,.slice y45 y32.length y46,.slice y47 y33.length y48,.slice y49 y34.length y50,.slice y51 y35.length y52,.bool y36,.map (some y53)] hS101 ?_
    intro w102 hS103
    refine sR 7 [iR p33_21 4 6,.code p33_22] ?_
    refine rL1 38 (.tmp 80) 2 (hS103.blk 0 rfl) ?_
    refine r_lit (c:=p33_21) (i:=5) (d:=(some 82)) (ty:=38) (t:=38) (e:=93) (sz:=1) (n:=1) (parts:=#[(0,(.const (.slice none 0 0)))]) (vs:=[(0,.slice none 0 0)]) (z:=zeroOf Try.prog 93) (cs':=([(none,0,0)] : List Hd3).flatMap encH) hS103 (by kernel_rfl) (by kernel_rfl) (by kernel_rfl) (by kernel_rfl) (by kernel_rfl) (by decide) (by decide) (by kernel_rfl) rfl (Parts.cons (c:=[.slice none 0 0]) (by kernel_rfl) rfl Parts.nil) rfl ?_
    intro b105 w106 hS107
    have hS110:=hS107.nilrow none 95 4
    obtain ⟨g111,hp112⟩:=ite_some hp95
    have hS113:=hS110.pick15
    refine r_appendRR (c:=p33_21) (i:=6) (d:=(some 83)) (ty:=38) (u:=93) (t:=38) (t2:=38) (s:=(.tmp 81)) (x:=(.tmp 82)) (xv:=.slice (some ⟨b105,0,none⟩) 1 1) (info:=infoOf Try.prog 93) (z:=zeroOf Try.prog 93) (bytes:=24) (A:=y42) (cp:=y43) (Al:=none) (cl:=0) (ts:=y31) (tl:=([] : List weirref14_Move)) hS113 (by kernel_rfl) (by kernel_rfl) (by kernel_rfl) (by kernel_rfl) (by kernel_rfl) (.inl (by kernel_rfl)) (by kernel_rfl) (by kernel_rfl) (by kernel_rfl) (by kernel_rfl) (by kernel_rfl) (src_hd (hS113.row 2 rfl)) g111 (by omega) ?_
    intro A114 c115 w116 hS117
    refine sR 2 [.inRegion (opsOf p33_21) [9],.code p33_22] ?_
    have hS119:=hS117.pick2
    refine rS 38 (.tmp 85) (.tmp 83) 2 (.slice A114 (y31 ++ [([] : List weirref14_Move)]).length c115) [.slice A114 (y31 ++ [([] : List weirref14_Move)]).length c115] [.slice A81 (y29 ++ ([a3] : List ByteArray)).length c82,.slice A96 (y30 ++ ([a4] : List Int)).length c97,.slice A114 (y31 ++ [([] : List weirref14_Move)]).length c115,.slice y45 y32.length y46,.slice y47 y33.length y48,.slice y49 y34.length y50,.slice y51 y35.length y52,.bool y36,.map (some y53)] hS119 ?_
    intro w120 hS121
    refine sR 7 [iR p33_23 4 7,.code p33_24] ?_
    refine rL1 23 (.tmp 89) 3 (hS121.blk 0 rfl) ?_
    refine sR 1 [iR p33_23 6 5,.code p33_24] ?_
    refine r_lit (c:=p33_23) (i:=6) (d:=(some 92)) (ty:=23) (t:=23) (e:=4) (sz:=1) (n:=1) (parts:=#[(0,(.tmp 91))]) (vs:=[(0,.bool t47)]) (z:=zeroOf Try.prog 4) (cs':=([t47] : List Bool).flatMap encB) hS121 (by kernel_rfl) (by kernel_rfl) (by kernel_rfl) (by kernel_rfl) (by kernel_rfl) (by decide) (by decide) (by kernel_rfl) rfl (Parts.cons (c:=[.bool t47]) (by kernel_rfl) rfl Parts.nil) rfl ?_
    intro b123 w124 hS125
    have hS126:=hS125.pick16
    obtain ⟨g127,hp128⟩:=ite_some hp112
    refine r_append (c:=p33_23) (i:=7) (d:=(some 93)) (ty:=23) (enc:=encB) (e:=4) (u:=4) (t:=23) (t2:=23) (sz:=1) (cp:=y46) (A:=y45) (bytes:=1) (xs:=y32) (ys:=([t47] : List Bool)) (s:=(.tmp 90)) (x:=(.tmp 92)) (xv:=.slice (some ⟨b123,0,none⟩) ([t47] : List Bool).length 1) (info:=infoOf Try.prog 4) (z:=zeroOf Try.prog 4) (ycs:=([t47] : List Bool).flatMap encB) hS126 (by kernel_rfl) (by kernel_rfl) (by kernel_rfl) (by kernel_rfl) (by kernel_rfl) (.inl (by kernel_rfl)) (by kernel_rfl) (by kernel_rfl) (by kernel_rfl) (by kernel_rfl) (by kernel_rfl) (by omega) len_encB one_encB (src_row (hS126.row 1 rfl) (by omega) len_encB) rfl g127 (by omega) ?_
    intro A129 c130 w131 hS132
    refine sR 2 [.inRegion (opsOf p33_23) [10],.code p33_24] ?_
    have hS134:=hS132.pick2
    refine rS 23 (.tmp 95) (.tmp 93) 3 (.slice A129 (y32 ++ ([t47] : List Bool)).length c130) [.slice A129 (y32 ++ ([t47] : List Bool)).length c130] [.slice A81 (y29 ++ ([a3] : List ByteArray)).length c82,.slice A96 (y30 ++ ([a4] : List Int)).length c97,.slice A114 (y31 ++ [([] : List weirref14_Move)]).length c115,.slice A129 (y32 ++ ([t47] : List Bool)).length c130,.slice y47 y33.length y48,.slice y49 y34.length y50,.slice y51 y35.length y52,.bool y36,.map (some y53)] hS134 ?_
    intro w135 hS136
    refine sR 2 [.code p33_25,.code (cd33 [1,1,1,1,1,1,1,1,1,1,1])] ?_
    have hS137:=hS136.pick17
    have hS138:=hS137.pick11
    have hS139:=hS138.pick2
    generalize hg141 : (xrow A129 c130 4 1 ((y32 ++ ([t47] : List Bool)).flatMap encB)::xrow (some ⟨b123,0,none⟩) 1 4 1 (([t47] : List Bool).flatMap encB)::xrr A114 c115 93 (upd y44 y31.length (none,0)) 95 4 enc_weirref14_Move (y31 ++ [([] : List weirref14_Move)])::xrow (some ⟨b105,0,none⟩) 1 93 1 (([(none,0,0)] : List Hd3).flatMap encH)::xrow A96 c97 3 1 ((y30 ++ ([a4] : List Int)).flatMap (encI .i64))::xrow (some ⟨b90,0,none⟩) 1 3 1 (([a4] : List Int).flatMap (encI .i64))::xrow A81 c82 9 1 ((y29 ++ ([a3] : List ByteArray)).flatMap encS)::xrow (some ⟨b75,0,none⟩) 1 9 1 (([a3] : List ByteArray).flatMap encS)::xmap y53 ((mput a0v_8m a3 (y29.length : Int)).map (kv Value.string (Value.int .i64)))::xblk ba1_1c0 33 ([.pointer (some ⟨ba1_1c0v,0,none⟩)])::xblk ba1_1c0v 49 ([.map (some ba1_1c0vv_0),.map (some ba1_1c0vv_1),.map (some ba1_1c0vv_2),.bool t48])::xmap ba1_1c0vv_0 (a1_1c0vv_0m.map (kv Value.string (Value.int .i64)))::xmap ba1_1c0vv_1 (t49.map (kv Value.string (Value.int .i64)))::xmap ba1_1c0vv_2 (a1_1c0vv_2m.map (kv Value.string (Value.int .i64)))::xblk ba1_1c1 26 ([.slice Aa1_1c1v_0 a1_1c1v.Next.length ca1_1c1v_0,.slice Aa1_1c1v_1 a1_1c1v.End.length ca1_1c1v_1,.slice Aa1_1c1v_2 a1_1c1v.Value.length ca1_1c1v_2,.int .i64 a1_1c1v.Start])::xrow y49 y50 3 1 (y34.flatMap (encI .i64))::xrow y51 y52 88 3 (y35.flatMap enc_api_Pick)::xblk b1 32 ([.string y37,.func (.func 28) #[] #[.pointer (some ⟨ba1_1c0,0,none⟩),.pointer (some ⟨ba1_1c1,0,none⟩)],.func (.func 31) #[] #[.pointer (some ⟨ba1_1c1,0,none⟩),.pointer (some ⟨ba1_1c0,0,none⟩)],.func (.func 32) #[] #[.pointer (some ⟨ba1_1c0,0,none⟩),.pointer (some ⟨ba1_1c1,0,none⟩)]])::xblk b5 88 (enc_api_Pick a6)::fs) = gs140 at hS139
    obtain ⟨g144,hp145⟩:=ite_some hp128
    refine r_drawnG (S:=Option (Nat × Option ((Option Addr × Nat) × Option Unit))) (rank:=(fun st => match st with | none => 0 | some (b142,none) => 1 | some (b142,some (x149,none)) => 2 | some (b142,some (x149,some x150)) => 3)) (C:=(fun st w' => match st with | none => St w0 Z (xblk ba0 43 ([.slice A81 (y29 ++ ([a3] : List ByteArray)).length c82,.slice A96 (y30 ++ ([a4] : List Int)).length c97,.slice A114 (y31 ++ [([] : List weirref14_Move)]).length c115,.slice A129 (y32 ++ ([t47] : List Bool)).length c130,.slice y47 y33.length y48,.slice y49 y34.length y50,.slice y51 y35.length y52,.bool y36,.map (some y53)])::xblk b63 84 (enc_api_Final t46)::xrow y47 y48 84 49 (y33.flatMap enc_api_Final)::gs140) w' | some (b142,none) => St w0 Z (xrow (some ⟨b142,0,none⟩) 1 84 49 (([t46] : List api_Final).flatMap enc_api_Final)::xblk ba0 43 ([.slice A81 (y29 ++ ([a3] : List ByteArray)).length c82,.slice A96 (y30 ++ ([a4] : List Int)).length c97,.slice A114 (y31 ++ [([] : List weirref14_Move)]).length c115,.slice A129 (y32 ++ ([t47] : List Bool)).length c130,.slice y47 y33.length y48,.slice y49 y34.length y50,.slice y51 y35.length y52,.bool y36,.map (some y53)])::xblk b63 84 (enc_api_Final t46)::xrow y47 y48 84 49 (y33.flatMap enc_api_Final)::gs140) w' | some (b142,some (x149,none)) => St w0 Z (xrow x149.1 x149.2 84 49 ((y33 ++ ([t46] : List api_Final)).flatMap enc_api_Final)::xrow (some ⟨b142,0,none⟩) 1 84 49 (([t46] : List api_Final).flatMap enc_api_Final)::xblk ba0 43 ([.slice A81 (y29 ++ ([a3] : List ByteArray)).length c82,.slice A96 (y30 ++ ([a4] : List Int)).length c97,.slice A114 (y31 ++ [([] : List weirref14_Move)]).length c115,.slice A129 (y32 ++ ([t47] : List Bool)).length c130,.slice y47 y33.length y48,.slice y49 y34.length y50,.slice y51 y35.length y52,.bool y36,.map (some y53)])::xblk b63 84 (enc_api_Final t46)::gs140) w' | some (b142,some (x149,some x150)) => St w0 Z (xblk ba0 43 ([.slice A81 (y29 ++ ([a3] : List ByteArray)).length c82,.slice A96 (y30 ++ ([a4] : List Int)).length c97,.slice A114 (y31 ++ [([] : List weirref14_Move)]).length c115,.slice A129 (y32 ++ ([t47] : List Bool)).length c130,.slice x149.1 (y33 ++ ([t46] : List api_Final)).length x149.2,.slice y49 y34.length y50,.slice y51 y35.length y52,.bool y36,.map (some y53)])::xrow x149.1 x149.2 84 49 ((y33 ++ ([t46] : List api_Final)).flatMap enc_api_Final)::xrow (some ⟨b142,0,none⟩) 1 84 49 (([t46] : List api_Final).flatMap enc_api_Final)::xblk b63 84 (enc_api_Final t46)::gs140) w')) (v:=(fun st => match st with | none => [.pointer (some ⟨ba0,0,none⟩),.pointer (some ⟨ba0,0,none⟩),.pointer (some ⟨ba0,0,none⟩),.pointer (some ⟨ba0,4,none⟩),.slice y47 y33.length y48,.agg (enc_api_Final t46).toArray,undef,undef,undef,undef,undef] | some (b142,none) => [.pointer (some ⟨ba0,0,none⟩),.pointer (some ⟨ba0,0,none⟩),.pointer (some ⟨ba0,0,none⟩),.pointer (some ⟨ba0,4,none⟩),.slice y47 y33.length y48,.agg (enc_api_Final t46).toArray,.slice (some ⟨b142,0,none⟩) ([t46] : List api_Final).length 1,undef,undef,undef,undef] | some (b142,some (x149,none)) => [.pointer (some ⟨ba0,0,none⟩),.pointer (some ⟨ba0,0,none⟩),.pointer (some ⟨ba0,0,none⟩),.pointer (some ⟨ba0,4,none⟩),.slice y47 y33.length y48,.agg (enc_api_Final t46).toArray,.slice (some ⟨b142,0,none⟩) ([t46] : List api_Final).length 1,.slice x149.1 (y33 ++ ([t46] : List api_Final)).length x149.2,.pointer (some ⟨ba0,0,none⟩),.pointer (some ⟨ba0,4,none⟩),undef] | some (b142,some (x149,some x150)) => [.pointer (some ⟨ba0,0,none⟩),.pointer (some ⟨ba0,0,none⟩),.pointer (some ⟨ba0,0,none⟩),.pointer (some ⟨ba0,4,none⟩),.slice y47 y33.length y48,.agg (enc_api_Final t46).toArray,.slice (some ⟨b142,0,none⟩) ([t46] : List api_Final).length 1,.slice x149.1 (y33 ++ ([t46] : List api_Final)).length x149.2,.pointer (some ⟨ba0,0,none⟩),.pointer (some ⟨ba0,4,none⟩),undef])) (c:=p33_25) (id:=13) none 10 11 [6,7,10] [0,0,0,0,0,0,0,1,2,2,2] [2,2,2,2,1,0,1,2,3,2,3] [] (by kernel_rfl) (by kernel_rfl) (by kernel_rfl) (by kernel_rfl) (by kernel_rfl) (by kernel_rfl) (by kernel_rfl) (by kernel_rfl) (by kernel_rfl) (by kernel_rfl) rfl hS139.drew ?_ ?_ ?_ ?_
    ·intro st w hC
     rcases st with _ | ⟨b142,_ | ⟨x149,_ | x150⟩⟩
     ·exact nbl rfl
     ·exact nbl rfl
     ·exact nbl rfl
     ·exact nbl rfl
    ·intro i hi he st w hC hr hu
     match i,hi,he with
     | 0,_,_ =>
      rcases st with _ | ⟨b142,_ | ⟨x149,_ | x150⟩⟩
      ·dsimp only at hC
       exact dP (.pointer (some ⟨ba0,0,none⟩)) hC
      ·dsimp only at hC
       exact dP (.pointer (some ⟨ba0,0,none⟩)) hC
      ·dsimp only at hC
       exact dP (.pointer (some ⟨ba0,0,none⟩)) hC
      ·exact absurd hu (nle rfl)
     | 1,_,_ =>
      rcases st with _ | ⟨b142,_ | ⟨x149,_ | x150⟩⟩
      ·dsimp only at hC
       exact dP (.pointer (some ⟨ba0,0,none⟩)) hC
      ·dsimp only at hC
       exact dP (.pointer (some ⟨ba0,0,none⟩)) hC
      ·dsimp only at hC
       exact dP (.pointer (some ⟨ba0,0,none⟩)) hC
      ·exact absurd hu (nle rfl)
     | 2,_,_ =>
      rcases st with _ | ⟨b142,_ | ⟨x149,_ | x150⟩⟩
      ·dsimp only at hC
       exact dP (.pointer (some ⟨ba0,0,none⟩)) hC
      ·dsimp only at hC
       exact dP (.pointer (some ⟨ba0,0,none⟩)) hC
      ·dsimp only at hC
       exact dP (.pointer (some ⟨ba0,0,none⟩)) hC
      ·exact absurd hu (nle rfl)
     | 3,_,_ =>
      rcases st with _ | ⟨b142,_ | ⟨x149,_ | x150⟩⟩
      ·dsimp only at hC
       exact dP (.pointer (some ⟨ba0,4,none⟩)) hC
      ·dsimp only at hC
       exact dP (.pointer (some ⟨ba0,4,none⟩)) hC
      ·dsimp only at hC
       exact dP (.pointer (some ⟨ba0,4,none⟩)) hC
      ·exact absurd hu (nle rfl)
     | 4,_,_ =>
      rcases st with _ | ⟨b142,_ | ⟨x149,_ | x150⟩⟩
      ·dsimp only at hC
       exact does_run (x_load (t:=39) (x:=(.tmp 99)) (p:=⟨ba0,4,none⟩) (v:=.slice y47 y33.length y48) (by kernel_rfl) (loads_at 4 (hC.blk 0 rfl) (by kernel_rfl) (by kernel_rfl)) (by kernel_rfl)) rfl hC
      ·dsimp only at hC
       exact does_run (x_load (t:=39) (x:=(.tmp 99)) (p:=⟨ba0,4,none⟩) (v:=.slice y47 y33.length y48) (by kernel_rfl) (loads_at 4 (hC.blk 1 rfl) (by kernel_rfl) (by kernel_rfl)) (by kernel_rfl)) rfl hC
      ·exact absurd hu (nle rfl)
      ·exact absurd hu (nle rfl)
     | 5,_,_ =>
      rcases st with _ | ⟨b142,_ | ⟨x149,_ | x150⟩⟩
      ·dsimp only at hC
       exact does_run (x_load (t:=84) (x:=(.tmp 17)) (p:=⟨b63,0,none⟩) (v:=.agg (enc_api_Final t46).toArray) (by kernel_rfl) (loads_agg (hC.blk 1 rfl) (by kernel_rfl) (lenK (len_api_Final _) (by kernel_rfl))) (by kernel_rfl)) rfl hC
      ·exact absurd hu (nle rfl)
      ·exact absurd hu (nle rfl)
      ·exact absurd hu (nle rfl)
     | 6,_,he => exact absurd he (by decide)
     | 7,_,he => exact absurd he (by decide)
     | 8,_,_ =>
      rcases st with _ | ⟨b142,_ | ⟨x149,_ | x150⟩⟩
      ·exact absurd hr (nle rfl)
      ·exact absurd hr (nle rfl)
      ·dsimp only at hC
       exact dP (.pointer (some ⟨ba0,0,none⟩)) hC
      ·dsimp only at hC
       exact dP (.pointer (some ⟨ba0,0,none⟩)) hC
     | 9,_,_ =>
      rcases st with _ | ⟨b142,_ | ⟨x149,_ | x150⟩⟩
      ·exact absurd hr (nle rfl)
      ·exact absurd hr (nle rfl)
      ·dsimp only at hC
       exact dP (.pointer (some ⟨ba0,4,none⟩)) hC
      ·exact absurd hu (nle rfl)
     | 10,_,he => exact absurd he (by decide)
     | i + 11,hi,_ => exact absurd hi (by omega)
    ·intro k hk st w hC hr
     match k,hk with
     | 0,_ =>
      rcases st with _ | ⟨b142,_ | ⟨x149,_ | x150⟩⟩
      ·dsimp only at hC
       refine does_lit (t:=39) (e:=84) (sz:=49) (n:=1) (parts:=#[(0,(.tmp 101))]) (vs:=[(0,.agg (enc_api_Final t46).toArray)]) (z:=zeroOf Try.prog 84) (cs':=([t46] : List api_Final).flatMap enc_api_Final) hC (by kernel_rfl) (by kernel_rfl) (by kernel_rfl) (by kernel_rfl) (by decide) (by decide) (by kernel_rfl) rfl (Parts.cons (c:=enc_api_Final t46) (by kernel_rfl) (len_api_Final _) Parts.nil) rfl ?_
       intro b142 w2 h2
       refine ⟨some (b142,none),rfl,?_,.inr rfl,h2⟩
       intro j hj
       match j,hj with
       | 0,_ => exact rfl
       | 1,_ => exact rfl
       | 2,_ => exact rfl
       | 3,_ => exact rfl
       | 4,_ => exact rfl
       | 5,_ => exact rfl
       | 6,hj => exact absurd hj (by decide)
       | 7,hj => exact absurd hj (by decide)
       | 8,hj => exact absurd hj (by decide)
       | 9,hj => exact absurd hj (by decide)
       | 10,hj => exact absurd hj (by decide)
       | j + 11,_ => exact rfl
      ·exact absurd hr (Nat.ne_of_beq_eq_false rfl)
      ·exact absurd hr (Nat.ne_of_beq_eq_false rfl)
      ·exact absurd hr (Nat.ne_of_beq_eq_false rfl)
     | 1,_ =>
      rcases st with _ | ⟨b142,_ | ⟨x149,_ | x150⟩⟩
      ·exact absurd hr (Nat.ne_of_beq_eq_false rfl)
      ·dsimp only at hC
       have hC:=hC.pick3
       refine does_append (enc:=enc_api_Final) (e:=84) (u:=84) (t:=39) (t2:=39) (sz:=49) (cp:=y48) (A:=y47) (bytes:=392) (xs:=y33) (ys:=([t46] : List api_Final)) (s:=(.tmp 100)) (x:=(.tmp 102)) (xv:=.slice (some ⟨b142,0,none⟩) ([t46] : List api_Final).length 1) (info:=infoOf Try.prog 84) (z:=zeroOf Try.prog 84) (ycs:=([t46] : List api_Final).flatMap enc_api_Final) hC (by kernel_rfl) (by kernel_rfl) (by kernel_rfl) (by kernel_rfl) (.inl (by kernel_rfl)) (by kernel_rfl) (by kernel_rfl) (by kernel_rfl) (by kernel_rfl) (by kernel_rfl) (by omega) len_api_Final one_api_Final (src_row (hC.row 1 rfl) (by omega) len_api_Final) rfl g144 (by omega) ?_
       intro A146 c147 w2 h2
       refine ⟨some (b142,some ((A146,c147),none)),rfl,?_,.inr rfl,h2⟩
       intro j hj
       match j,hj with
       | 0,_ => exact rfl
       | 1,_ => exact rfl
       | 2,_ => exact rfl
       | 3,_ => exact rfl
       | 4,_ => exact rfl
       | 5,_ => exact rfl
       | 6,_ => exact rfl
       | 7,hj => exact absurd hj (by decide)
       | 8,hj => exact absurd hj (by decide)
       | 9,hj => exact absurd hj (by decide)
       | 10,hj => exact absurd hj (by decide)
       | j + 11,_ => exact rfl
      ·exact absurd hr (Nat.ne_of_beq_eq_false rfl)
      ·exact absurd hr (Nat.ne_of_beq_eq_false rfl)
     | 2,_ =>
      rcases st with _ | ⟨b142,_ | ⟨x149,_ | x150⟩⟩
      ·exact absurd hr (Nat.ne_of_beq_eq_false rfl)
      ·exact absurd hr (Nat.ne_of_beq_eq_false rfl)
      ·dsimp only at hC
       have hC:=hC.pick2
       refine dS 39 (.tmp 105) (.tmp 103) 4 (.slice x149.1 (y33 ++ ([t46] : List api_Final)).length x149.2) [.slice x149.1 (y33 ++ ([t46] : List api_Final)).length x149.2] [.slice A81 (y29 ++ ([a3] : List ByteArray)).length c82,.slice A96 (y30 ++ ([a4] : List Int)).length c97,.slice A114 (y31 ++ [([] : List weirref14_Move)]).length c115,.slice A129 (y32 ++ ([t47] : List Bool)).length c130,.slice x149.1 (y33 ++ ([t46] : List api_Final)).length x149.2,.slice y49 y34.length y50,.slice y51 y35.length y52,.bool y36,.map (some y53)] hC ?_
       intro w2 h2
       refine ⟨some (b142,some (x149,some ())),rfl,?_,.inl rfl,h2⟩
       intro j hj
       match j,hj with
       | 0,_ => exact rfl
       | 1,_ => exact rfl
       | 2,_ => exact rfl
       | 3,_ => exact rfl
       | 4,_ => exact rfl
       | 5,_ => exact rfl
       | 6,_ => exact rfl
       | 7,_ => exact rfl
       | 8,_ => exact rfl
       | 9,_ => exact rfl
       | 10,hj => exact absurd hj (by decide)
       | j + 11,_ => exact rfl
      ·exact absurd hr (Nat.ne_of_beq_eq_false rfl)
     | k + 3,hk => exact absurd hk (by simp)
    intro st154 w151 hS152 hr153
    rcases st154 with _ | ⟨b142,_ | ⟨x149,_ | x150⟩⟩
    ·exact absurd hr153 (nle rfl)
    ·exact absurd hr153 (nle rfl)
    ·exact absurd hr153 (nle rfl)
    replace hS152 : St w0 Z (xblk ba0 43 ([.slice A81 (y29 ++ ([a3] : List ByteArray)).length c82,.slice A96 (y30 ++ ([a4] : List Int)).length c97,.slice A114 (y31 ++ [([] : List weirref14_Move)]).length c115,.slice A129 (y32 ++ ([t47] : List Bool)).length c130,.slice x149.1 (y33 ++ ([t46] : List api_Final)).length x149.2,.slice y49 y34.length y50,.slice y51 y35.length y52,.bool y36,.map (some y53)])::xrow x149.1 x149.2 84 49 ((y33 ++ ([t46] : List api_Final)).flatMap enc_api_Final)::xrow (some ⟨b142,0,none⟩) 1 84 49 (([t46] : List api_Final).flatMap enc_api_Final)::xblk b63 84 (enc_api_Final t46)::gs140) w151:=hS152
    subst hg141
    refine sR 6 [iR p33_27 4 7,.code p33_28] ?_
    refine rL1 37 (.tmp 109) 5 (hS152.blk 0 rfl) ?_
    refine sR 1 [iR p33_27 6 5,.code p33_28] ?_
    refine r_lit (c:=p33_27) (i:=6) (d:=(some 112)) (ty:=37) (t:=37) (e:=3) (sz:=1) (n:=1) (parts:=#[(0,(.tmp 111))]) (vs:=[(0,.int .i64 a5)]) (z:=zeroOf Try.prog 3) (cs':=([a5] : List Int).flatMap (encI .i64)) hS152 (by kernel_rfl) (by kernel_rfl) (by kernel_rfl) (by kernel_rfl) (by kernel_rfl) (by decide) (by decide) (by kernel_rfl) rfl (Parts.cons (c:=[.int .i64 a5]) (by kernel_rfl) rfl Parts.nil) rfl ?_
    intro b156 w157 hS158
    have hS159:=hS158.pick20
    obtain ⟨g160,hp161⟩:=ite_some hp145
    refine r_append (c:=p33_27) (i:=7) (d:=(some 113)) (ty:=37) (enc:=(encI .i64)) (e:=3) (u:=3) (t:=37) (t2:=37) (sz:=1) (cp:=y50) (A:=y49) (bytes:=8) (xs:=y34) (ys:=([a5] : List Int)) (s:=(.tmp 110)) (x:=(.tmp 112)) (xv:=.slice (some ⟨b156,0,none⟩) ([a5] : List Int).length 1) (info:=infoOf Try.prog 3) (z:=zeroOf Try.prog 3) (ycs:=([a5] : List Int).flatMap (encI .i64)) hS159 (by kernel_rfl) (by kernel_rfl) (by kernel_rfl) (by kernel_rfl) (by kernel_rfl) (.inl (by kernel_rfl)) (by kernel_rfl) (by kernel_rfl) (by kernel_rfl) (by kernel_rfl) (by kernel_rfl) (by omega) (len_encI .i64) (one_encI .i64) (src_row (hS159.row 1 rfl) (by omega) (len_encI .i64)) rfl g160 (by omega) ?_
    intro A162 c163 w164 hS165
    refine sR 2 [.inRegion (opsOf p33_27) [10],.code p33_28] ?_
    have hS167:=hS165.pick2
    refine rS 37 (.tmp 115) (.tmp 113) 5 (.slice A162 (y34 ++ ([a5] : List Int)).length c163) [.slice A162 (y34 ++ ([a5] : List Int)).length c163] [.slice A81 (y29 ++ ([a3] : List ByteArray)).length c82,.slice A96 (y30 ++ ([a4] : List Int)).length c97,.slice A114 (y31 ++ [([] : List weirref14_Move)]).length c115,.slice A129 (y32 ++ ([t47] : List Bool)).length c130,.slice x149.1 (y33 ++ ([t46] : List api_Final)).length x149.2,.slice A162 (y34 ++ ([a5] : List Int)).length c163,.slice y51 y35.length y52,.bool y36,.map (some y53)] hS167 ?_
    intro w168 hS169
    refine sR 2 [.code p33_29,.code (cd33 [1,1,1,1,1,1,1,1,1,1,1,1,1])] ?_
    have hS170:=hS169.pick23
    have hS171:=hS170.pick22
    have hS172:=hS171.pick2
    generalize hg174 : (xrow A162 c163 3 1 ((y34 ++ ([a5] : List Int)).flatMap (encI .i64))::xrow (some ⟨b156,0,none⟩) 1 3 1 (([a5] : List Int).flatMap (encI .i64))::xrow x149.1 x149.2 84 49 ((y33 ++ ([t46] : List api_Final)).flatMap enc_api_Final)::xrow (some ⟨b142,0,none⟩) 1 84 49 (([t46] : List api_Final).flatMap enc_api_Final)::xblk b63 84 (enc_api_Final t46)::xrow A129 c130 4 1 ((y32 ++ ([t47] : List Bool)).flatMap encB)::xrow (some ⟨b123,0,none⟩) 1 4 1 (([t47] : List Bool).flatMap encB)::xrr A114 c115 93 (upd y44 y31.length (none,0)) 95 4 enc_weirref14_Move (y31 ++ [([] : List weirref14_Move)])::xrow (some ⟨b105,0,none⟩) 1 93 1 (([(none,0,0)] : List Hd3).flatMap encH)::xrow A96 c97 3 1 ((y30 ++ ([a4] : List Int)).flatMap (encI .i64))::xrow (some ⟨b90,0,none⟩) 1 3 1 (([a4] : List Int).flatMap (encI .i64))::xrow A81 c82 9 1 ((y29 ++ ([a3] : List ByteArray)).flatMap encS)::xrow (some ⟨b75,0,none⟩) 1 9 1 (([a3] : List ByteArray).flatMap encS)::xmap y53 ((mput a0v_8m a3 (y29.length : Int)).map (kv Value.string (Value.int .i64)))::xblk ba1_1c0 33 ([.pointer (some ⟨ba1_1c0v,0,none⟩)])::xblk ba1_1c0v 49 ([.map (some ba1_1c0vv_0),.map (some ba1_1c0vv_1),.map (some ba1_1c0vv_2),.bool t48])::xmap ba1_1c0vv_0 (a1_1c0vv_0m.map (kv Value.string (Value.int .i64)))::xmap ba1_1c0vv_1 (t49.map (kv Value.string (Value.int .i64)))::xmap ba1_1c0vv_2 (a1_1c0vv_2m.map (kv Value.string (Value.int .i64)))::xblk ba1_1c1 26 ([.slice Aa1_1c1v_0 a1_1c1v.Next.length ca1_1c1v_0,.slice Aa1_1c1v_1 a1_1c1v.End.length ca1_1c1v_1,.slice Aa1_1c1v_2 a1_1c1v.Value.length ca1_1c1v_2,.int .i64 a1_1c1v.Start])::xblk b1 32 ([.string y37,.func (.func 28) #[] #[.pointer (some ⟨ba1_1c0,0,none⟩),.pointer (some ⟨ba1_1c1,0,none⟩)],.func (.func 31) #[] #[.pointer (some ⟨ba1_1c1,0,none⟩),.pointer (some ⟨ba1_1c0,0,none⟩)],.func (.func 32) #[] #[.pointer (some ⟨ba1_1c0,0,none⟩),.pointer (some ⟨ba1_1c1,0,none⟩)]])::fs) = gs173 at hS172
    obtain ⟨g177,hp178⟩:=ite_some hp161
    refine r_drawnG (S:=Option (Nat × Option ((Option Addr × Nat) × Option Unit))) (rank:=(fun st => match st with | none => 0 | some (b175,none) => 1 | some (b175,some (x182,none)) => 2 | some (b175,some (x182,some x183)) => 3)) (C:=(fun st w' => match st with | none => St w0 Z (xblk ba0 43 ([.slice A81 (y29 ++ ([a3] : List ByteArray)).length c82,.slice A96 (y30 ++ ([a4] : List Int)).length c97,.slice A114 (y31 ++ [([] : List weirref14_Move)]).length c115,.slice A129 (y32 ++ ([t47] : List Bool)).length c130,.slice x149.1 (y33 ++ ([t46] : List api_Final)).length x149.2,.slice A162 (y34 ++ ([a5] : List Int)).length c163,.slice y51 y35.length y52,.bool y36,.map (some y53)])::xrow y51 y52 88 3 (y35.flatMap enc_api_Pick)::xblk b5 88 (enc_api_Pick a6)::gs173) w' | some (b175,none) => St w0 Z (xrow (some ⟨b175,0,none⟩) 1 88 3 (([a6] : List api_Pick).flatMap enc_api_Pick)::xblk ba0 43 ([.slice A81 (y29 ++ ([a3] : List ByteArray)).length c82,.slice A96 (y30 ++ ([a4] : List Int)).length c97,.slice A114 (y31 ++ [([] : List weirref14_Move)]).length c115,.slice A129 (y32 ++ ([t47] : List Bool)).length c130,.slice x149.1 (y33 ++ ([t46] : List api_Final)).length x149.2,.slice A162 (y34 ++ ([a5] : List Int)).length c163,.slice y51 y35.length y52,.bool y36,.map (some y53)])::xrow y51 y52 88 3 (y35.flatMap enc_api_Pick)::xblk b5 88 (enc_api_Pick a6)::gs173) w' | some (b175,some (x182,none)) => St w0 Z (xrow x182.1 x182.2 88 3 ((y35 ++ ([a6] : List api_Pick)).flatMap enc_api_Pick)::xrow (some ⟨b175,0,none⟩) 1 88 3 (([a6] : List api_Pick).flatMap enc_api_Pick)::xblk ba0 43 ([.slice A81 (y29 ++ ([a3] : List ByteArray)).length c82,.slice A96 (y30 ++ ([a4] : List Int)).length c97,.slice A114 (y31 ++ [([] : List weirref14_Move)]).length c115,.slice A129 (y32 ++ ([t47] : List Bool)).length c130,.slice x149.1 (y33 ++ ([t46] : List api_Final)).length x149.2,.slice A162 (y34 ++ ([a5] : List Int)).length c163,.slice y51 y35.length y52,.bool y36,.map (some y53)])::xblk b5 88 (enc_api_Pick a6)::gs173) w' | some (b175,some (x182,some x183)) => St w0 Z (xblk ba0 43 ([.slice A81 (y29 ++ ([a3] : List ByteArray)).length c82,.slice A96 (y30 ++ ([a4] : List Int)).length c97,.slice A114 (y31 ++ [([] : List weirref14_Move)]).length c115,.slice A129 (y32 ++ ([t47] : List Bool)).length c130,.slice x149.1 (y33 ++ ([t46] : List api_Final)).length x149.2,.slice A162 (y34 ++ ([a5] : List Int)).length c163,.slice x182.1 (y35 ++ ([a6] : List api_Pick)).length x182.2,.bool y36,.map (some y53)])::xrow x182.1 x182.2 88 3 ((y35 ++ ([a6] : List api_Pick)).flatMap enc_api_Pick)::xrow (some ⟨b175,0,none⟩) 1 88 3 (([a6] : List api_Pick).flatMap enc_api_Pick)::xblk b5 88 (enc_api_Pick a6)::gs173) w')) (v:=(fun st => match st with | none => [.pointer (some ⟨ba0,0,none⟩),.pointer (some ⟨ba0,0,none⟩),.pointer (some ⟨ba0,0,none⟩),.pointer (some ⟨ba0,6,none⟩),.slice y51 y35.length y52,.agg (enc_api_Pick a6).toArray,undef,undef,undef,undef,undef] | some (b175,none) => [.pointer (some ⟨ba0,0,none⟩),.pointer (some ⟨ba0,0,none⟩),.pointer (some ⟨ba0,0,none⟩),.pointer (some ⟨ba0,6,none⟩),.slice y51 y35.length y52,.agg (enc_api_Pick a6).toArray,.slice (some ⟨b175,0,none⟩) ([a6] : List api_Pick).length 1,undef,undef,undef,undef] | some (b175,some (x182,none)) => [.pointer (some ⟨ba0,0,none⟩),.pointer (some ⟨ba0,0,none⟩),.pointer (some ⟨ba0,0,none⟩),.pointer (some ⟨ba0,6,none⟩),.slice y51 y35.length y52,.agg (enc_api_Pick a6).toArray,.slice (some ⟨b175,0,none⟩) ([a6] : List api_Pick).length 1,.slice x182.1 (y35 ++ ([a6] : List api_Pick)).length x182.2,.pointer (some ⟨ba0,0,none⟩),.pointer (some ⟨ba0,6,none⟩),undef] | some (b175,some (x182,some x183)) => [.pointer (some ⟨ba0,0,none⟩),.pointer (some ⟨ba0,0,none⟩),.pointer (some ⟨ba0,0,none⟩),.pointer (some ⟨ba0,6,none⟩),.slice y51 y35.length y52,.agg (enc_api_Pick a6).toArray,.slice (some ⟨b175,0,none⟩) ([a6] : List api_Pick).length 1,.slice x182.1 (y35 ++ ([a6] : List api_Pick)).length x182.2,.pointer (some ⟨ba0,0,none⟩),.pointer (some ⟨ba0,6,none⟩),undef])) (c:=p33_29) (id:=15) none 10 11 [6,7,10] [0,0,0,0,0,0,0,1,2,2,2] [2,2,2,2,1,0,1,2,3,2,3] [] (by kernel_rfl) (by kernel_rfl) (by kernel_rfl) (by kernel_rfl) (by kernel_rfl) (by kernel_rfl) (by kernel_rfl) (by kernel_rfl) (by kernel_rfl) (by kernel_rfl) rfl hS172.drew ?_ ?_ ?_ ?_
    ·intro st w hC
     rcases st with _ | ⟨b175,_ | ⟨x182,_ | x183⟩⟩
     ·exact nbl rfl
     ·exact nbl rfl
     ·exact nbl rfl
     ·exact nbl rfl
    ·intro i hi he st w hC hr hu
     match i,hi,he with
     | 0,_,_ =>
      rcases st with _ | ⟨b175,_ | ⟨x182,_ | x183⟩⟩
      ·dsimp only at hC
       exact dP (.pointer (some ⟨ba0,0,none⟩)) hC
      ·dsimp only at hC
       exact dP (.pointer (some ⟨ba0,0,none⟩)) hC
      ·dsimp only at hC
       exact dP (.pointer (some ⟨ba0,0,none⟩)) hC
      ·exact absurd hu (nle rfl)
     | 1,_,_ =>
      rcases st with _ | ⟨b175,_ | ⟨x182,_ | x183⟩⟩
      ·dsimp only at hC
       exact dP (.pointer (some ⟨ba0,0,none⟩)) hC
      ·dsimp only at hC
       exact dP (.pointer (some ⟨ba0,0,none⟩)) hC
      ·dsimp only at hC
       exact dP (.pointer (some ⟨ba0,0,none⟩)) hC
      ·exact absurd hu (nle rfl)
     | 2,_,_ =>
      rcases st with _ | ⟨b175,_ | ⟨x182,_ | x183⟩⟩
      ·dsimp only at hC
       exact dP (.pointer (some ⟨ba0,0,none⟩)) hC
      ·dsimp only at hC
       exact dP (.pointer (some ⟨ba0,0,none⟩)) hC
      ·dsimp only at hC
       exact dP (.pointer (some ⟨ba0,0,none⟩)) hC
      ·exact absurd hu (nle rfl)
     | 3,_,_ =>
      rcases st with _ | ⟨b175,_ | ⟨x182,_ | x183⟩⟩
      ·dsimp only at hC
       exact dP (.pointer (some ⟨ba0,6,none⟩)) hC
      ·dsimp only at hC
       exact dP (.pointer (some ⟨ba0,6,none⟩)) hC
      ·dsimp only at hC
       exact dP (.pointer (some ⟨ba0,6,none⟩)) hC
      ·exact absurd hu (nle rfl)
     | 4,_,_ =>
      rcases st with _ | ⟨b175,_ | ⟨x182,_ | x183⟩⟩
      ·dsimp only at hC
       exact does_run (x_load (t:=40) (x:=(.tmp 119)) (p:=⟨ba0,6,none⟩) (v:=.slice y51 y35.length y52) (by kernel_rfl) (loads_at 6 (hC.blk 0 rfl) (by kernel_rfl) (by kernel_rfl)) (by kernel_rfl)) rfl hC
      ·dsimp only at hC
       exact does_run (x_load (t:=40) (x:=(.tmp 119)) (p:=⟨ba0,6,none⟩) (v:=.slice y51 y35.length y52) (by kernel_rfl) (loads_at 6 (hC.blk 1 rfl) (by kernel_rfl) (by kernel_rfl)) (by kernel_rfl)) rfl hC
      ·exact absurd hu (nle rfl)
      ·exact absurd hu (nle rfl)
     | 5,_,_ =>
      rcases st with _ | ⟨b175,_ | ⟨x182,_ | x183⟩⟩
      ·dsimp only at hC
       exact does_run (x_load (t:=88) (x:=(.tmp 13)) (p:=⟨b5,0,none⟩) (v:=.agg (enc_api_Pick a6).toArray) (by kernel_rfl) (loads_agg (hC.blk 2 rfl) (by kernel_rfl) (by kernel_rfl)) (by kernel_rfl)) rfl hC
      ·exact absurd hu (nle rfl)
      ·exact absurd hu (nle rfl)
      ·exact absurd hu (nle rfl)
     | 6,_,he => exact absurd he (by decide)
     | 7,_,he => exact absurd he (by decide)
     | 8,_,_ =>
      rcases st with _ | ⟨b175,_ | ⟨x182,_ | x183⟩⟩
      ·exact absurd hr (nle rfl)
      ·exact absurd hr (nle rfl)
      ·dsimp only at hC
       exact dP (.pointer (some ⟨ba0,0,none⟩)) hC
      ·dsimp only at hC
       exact dP (.pointer (some ⟨ba0,0,none⟩)) hC
     | 9,_,_ =>
      rcases st with _ | ⟨b175,_ | ⟨x182,_ | x183⟩⟩
      ·exact absurd hr (nle rfl)
      ·exact absurd hr (nle rfl)
      ·dsimp only at hC
       exact dP (.pointer (some ⟨ba0,6,none⟩)) hC
      ·exact absurd hu (nle rfl)
     | 10,_,he => exact absurd he (by decide)
     | i + 11,hi,_ => exact absurd hi (by omega)
    ·intro k hk st w hC hr
     match k,hk with
     | 0,_ =>
      rcases st with _ | ⟨b175,_ | ⟨x182,_ | x183⟩⟩
      ·dsimp only at hC
       refine does_lit (t:=40) (e:=88) (sz:=3) (n:=1) (parts:=#[(0,(.tmp 121))]) (vs:=[(0,.agg (enc_api_Pick a6).toArray)]) (z:=zeroOf Try.prog 88) (cs':=([a6] : List api_Pick).flatMap enc_api_Pick) hC (by kernel_rfl) (by kernel_rfl) (by kernel_rfl) (by kernel_rfl) (by decide) (by decide) (by kernel_rfl) rfl (Parts.cons (c:=enc_api_Pick a6) (by kernel_rfl) (len_api_Pick _) Parts.nil) rfl ?_
       intro b175 w2 h2
       refine ⟨some (b175,none),rfl,?_,.inr rfl,h2⟩
       intro j hj
       match j,hj with
       | 0,_ => exact rfl
       | 1,_ => exact rfl
       | 2,_ => exact rfl
       | 3,_ => exact rfl
       | 4,_ => exact rfl
       | 5,_ => exact rfl
       | 6,hj => exact absurd hj (by decide)
       | 7,hj => exact absurd hj (by decide)
       | 8,hj => exact absurd hj (by decide)
       | 9,hj => exact absurd hj (by decide)
       | 10,hj => exact absurd hj (by decide)
       | j + 11,_ => exact rfl
      ·exact absurd hr (Nat.ne_of_beq_eq_false rfl)
      ·exact absurd hr (Nat.ne_of_beq_eq_false rfl)
      ·exact absurd hr (Nat.ne_of_beq_eq_false rfl)
     | 1,_ =>
      rcases st with _ | ⟨b175,_ | ⟨x182,_ | x183⟩⟩
      ·exact absurd hr (Nat.ne_of_beq_eq_false rfl)
      ·dsimp only at hC
       have hC:=hC.pick2
       refine does_append (enc:=enc_api_Pick) (e:=88) (u:=88) (t:=40) (t2:=40) (sz:=3) (cp:=y52) (A:=y51) (bytes:=24) (xs:=y35) (ys:=([a6] : List api_Pick)) (s:=(.tmp 120)) (x:=(.tmp 122)) (xv:=.slice (some ⟨b175,0,none⟩) ([a6] : List api_Pick).length 1) (info:=infoOf Try.prog 88) (z:=zeroOf Try.prog 88) (ycs:=([a6] : List api_Pick).flatMap enc_api_Pick) hC (by kernel_rfl) (by kernel_rfl) (by kernel_rfl) (by kernel_rfl) (.inl (by kernel_rfl)) (by kernel_rfl) (by kernel_rfl) (by kernel_rfl) (by kernel_rfl) (by kernel_rfl) (by omega) len_api_Pick one_api_Pick (src_row (hC.row 1 rfl) (by omega) len_api_Pick) rfl g177 (by omega) ?_
       intro A179 c180 w2 h2
       refine ⟨some (b175,some ((A179,c180),none)),rfl,?_,.inr rfl,h2⟩
       intro j hj
       match j,hj with
       | 0,_ => exact rfl
       | 1,_ => exact rfl
       | 2,_ => exact rfl
       | 3,_ => exact rfl
       | 4,_ => exact rfl
       | 5,_ => exact rfl
       | 6,_ => exact rfl
       | 7,hj => exact absurd hj (by decide)
       | 8,hj => exact absurd hj (by decide)
       | 9,hj => exact absurd hj (by decide)
       | 10,hj => exact absurd hj (by decide)
       | j + 11,_ => exact rfl
      ·exact absurd hr (Nat.ne_of_beq_eq_false rfl)
      ·exact absurd hr (Nat.ne_of_beq_eq_false rfl)
     | 2,_ =>
      rcases st with _ | ⟨b175,_ | ⟨x182,_ | x183⟩⟩
      ·exact absurd hr (Nat.ne_of_beq_eq_false rfl)
      ·exact absurd hr (Nat.ne_of_beq_eq_false rfl)
      ·dsimp only at hC
       have hC:=hC.pick2
       refine dS 40 (.tmp 125) (.tmp 123) 6 (.slice x182.1 (y35 ++ ([a6] : List api_Pick)).length x182.2) [.slice x182.1 (y35 ++ ([a6] : List api_Pick)).length x182.2] [.slice A81 (y29 ++ ([a3] : List ByteArray)).length c82,.slice A96 (y30 ++ ([a4] : List Int)).length c97,.slice A114 (y31 ++ [([] : List weirref14_Move)]).length c115,.slice A129 (y32 ++ ([t47] : List Bool)).length c130,.slice x149.1 (y33 ++ ([t46] : List api_Final)).length x149.2,.slice A162 (y34 ++ ([a5] : List Int)).length c163,.slice x182.1 (y35 ++ ([a6] : List api_Pick)).length x182.2,.bool y36,.map (some y53)] hC ?_
       intro w2 h2
       refine ⟨some (b175,some (x182,some ())),rfl,?_,.inl rfl,h2⟩
       intro j hj
       match j,hj with
       | 0,_ => exact rfl
       | 1,_ => exact rfl
       | 2,_ => exact rfl
       | 3,_ => exact rfl
       | 4,_ => exact rfl
       | 5,_ => exact rfl
       | 6,_ => exact rfl
       | 7,_ => exact rfl
       | 8,_ => exact rfl
       | 9,_ => exact rfl
       | 10,hj => exact absurd hj (by decide)
       | j + 11,_ => exact rfl
      ·exact absurd hr (Nat.ne_of_beq_eq_false rfl)
     | k + 3,hk => exact absurd hk (by simp)
    intro st187 w184 hS185 hr186
    rcases st187 with _ | ⟨b175,_ | ⟨x182,_ | x183⟩⟩
    ·exact absurd hr186 (nle rfl)
    ·exact absurd hr186 (nle rfl)
    ·exact absurd hr186 (nle rfl)
    replace hS185 : St w0 Z (xblk ba0 43 ([.slice A81 (y29 ++ ([a3] : List ByteArray)).length c82,.slice A96 (y30 ++ ([a4] : List Int)).length c97,.slice A114 (y31 ++ [([] : List weirref14_Move)]).length c115,.slice A129 (y32 ++ ([t47] : List Bool)).length c130,.slice x149.1 (y33 ++ ([t46] : List api_Final)).length x149.2,.slice A162 (y34 ++ ([a5] : List Int)).length c163,.slice x182.1 (y35 ++ ([a6] : List api_Pick)).length x182.2,.bool y36,.map (some y53)])::xrow x182.1 x182.2 88 3 ((y35 ++ ([a6] : List api_Pick)).flatMap enc_api_Pick)::xrow (some ⟨b175,0,none⟩) 1 88 3 (([a6] : List api_Pick).flatMap enc_api_Pick)::xblk b5 88 (enc_api_Pick a6)::gs173) w184:=hS185
    subst hg174
    refine sR 5 [iR (cd33 [1,1,1,1,1,1,1,1,1,1,1,1,1,0]) 3 4,.code p33_32] ?_
    refine rL1 36 (.tmp 128) 0 (hS185.blk 0 rfl) ?_
    refine sR 4 [.code p33_32] ?_
    refine r_isret (c:=p33_32) (by kernel_rfl) ?_
    have hS188:=hS185.pick2
    have hS189:=hS188.drop
    have hS190:=hS189.pick2
    have hS191:=hS190.drop
    have hS192:=hS191.pick3
    have hS193:=hS192.drop
    have hS194:=hS193.pick4
    have hS195:=hS194.drop
    have hS196:=hS195.pick4
    have hS197:=hS196.drop
    have hS198:=hS197.pick5
    have hS199:=hS198.drop
    have hS200:=hS199.pick6
    have hS201:=hS200.drop
    have hS202:=hS201.pick7
    have hS203:=hS202.drop
    have hS204:=hS203.pick8
    have hS205:=hS204.drop
    have hS206:=hS205.pick15
    have hS207:=hS206.drop
    have hS208:=hS207.pick14
    have hS209:=hS208.pick14
    have hS210:=hS209.pick14
    have hS211:=hS210.pick14
    have hS212:=hS211.pick14
    have hS213:=hS212.pick14
    have hS214:=hS213.pick14
    have hS215:=hS214.pick7
    have hS216:=hS215.pick8
    have hS217:=hS216.pick9
    have hS218:=hS217.pick10
    have hS219:=hS218.pick11
    have hS220:=hS219.pick12
    have hS221:=hS220.pick13
    have hS222:=hS221.pick14
    refine rR (.int .i64 (IntKind.i64.wrap (((y29 ++ ([a3] : List ByteArray)).length : Int) - 1))) Try.func33 ?_
    cases Option.some.inj hp178
    exact hR _ _ ⟨A81,c82,A96,c97,A114,c115,((upd y44 y31.length (none,0))),A129,c130,x149.1,x149.2,A162,c163,x182.1,x182.2,rfl,hS222⟩
   have hp224:=ite_t hp11 rfl
   refine sR 6 [.code (cd33 [1,1,0,1,0,1]),.code (cd33 [1,1,1])] ?_
   have hS225:=hS15.pick9
   have hS226:=hS225.drop
   have hS227:=hS226.pick15
   have hS228:=hS227.drop
   have hS229:=hS228.pick14
   have hS230:=hS229.pick14
   have hS231:=hS230.pick14
   have hS232:=hS231.pick14
   have hS233:=hS232.pick14
   have hS234:=hS233.pick14
   have hS235:=hS234.pick14
   have hS236:=hS235.pick7
   have hS237:=hS236.pick14
   have hS238:=hS237.pick14
   have hS239:=hS238.pick14
   have hS240:=hS239.pick14
   have hS241:=hS240.pick14
   have hS242:=hS241.pick14
   have hS243:=hS242.pick14
   refine rR (.int .i64 t12) Try.func33 ?_
   cases Option.some.inj hp224
   exact hR _ _ ⟨y38,y39,y40,y41,y42,y43,(y44),y45,y46,y47,y48,y49,y50,y51,y52,rfl,hS243⟩
  refine sI 3 [.inRegion (opsOf (cd33 [1,0])) [9,10],.code (cd33 [1,1])] 27 hv10 (fun hp247 => ?_) fun hp264 => ?_
  ·refine sR 5 td93 ?_
   have hS248:=hS7.pick16
   have hS249:=hS248.pick16
   have hS250:=hS249.pick16
   have hS251:=hS250.pick16
   have hS252:=hS251.pick16
   have hS253:=hS252.pick16
   have hS254:=hS253.pick7
   have hS255:=hS254.pick16
   have hS256:=hS255.pick16
   have hS257:=hS256.pick16
   have hS258:=hS257.pick16
   have hS259:=hS258.pick16
   have hS260:=hS259.pick16
   have hS261:=hS260.pick16
   have hS262:=hS261.pick16
   have hS263:=hS262.pick16
   exact rF _ (J16 ((mget a0v_8m a3).getD (0 : Int)) true (Option.some.inj hp247) _ _ hS263)
  refine sR 5 td93 ?_
  have hS265:=hS7.pick16
  have hS266:=hS265.pick16
  have hS267:=hS266.pick16
  have hS268:=hS267.pick16
  have hS269:=hS268.pick16
  have hS270:=hS269.pick16
  have hS271:=hS270.pick7
  have hS272:=hS271.pick16
  have hS273:=hS272.pick16
  have hS274:=hS273.pick16
  have hS275:=hS274.pick16
  have hS276:=hS275.pick16
  have hS277:=hS276.pick16
  have hS278:=hS277.pick16
  have hS279:=hS278.pick16
  have hS280:=hS279.pick16
  exact rF _ (J16 ((mget a0v_8m a3).getD (0 : Int)) false (Option.some.inj hp264) _ _ hS280)

end
end Go.Proofs.Ytfiamlhhhkiiaaa.K
