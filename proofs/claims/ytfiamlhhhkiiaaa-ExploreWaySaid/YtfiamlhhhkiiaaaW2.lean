/- The walk, part 2: each Go function as a plain Lean function, and that its call answers as that function says. No condition. -/
import Derived.Test.YtfiamlhhhkiiaaaE
import Derived.Test.YtfiamlhhhkiiaaaNG
import Derived.Test.YtfiamlhhhkiiaaaNP
import Derived.Test.YtfiamlhhhkiiaaaNM
import Derived.Test.YtfiamlhhhkiiaaaNQ
import Derived.Test.YtfiamlhhhkiiaaaNI
import Derived.Test.YtfiamlhhhkiiaaaNX
import Derived.Test.YtfiamlhhhkiiaaaNY
import Derived.Test.YtfiamlhhhkiiaaaNC
import Derived.Test.YtfiamlhhhkiiaaaNF
import Derived.Test.YtfiamlhhhkiiaaaNW
import Derived.Test.YtfiamlhhhkiiaaaNK
import Derived.Test.YtfiamlhhhkiiaaaND
import Derived.Test.YtfiamlhhhkiiaaaW1
set_option linter.unusedVariables false
set_option linter.unusedSimpArgs false
set_option maxRecDepth 100000
set_option synthInstance.maxSize 100000
set_option synthInstance.maxHeartbeats 4000000
namespace Go.Proofs.Ytfiamlhhhkiiaaa.K
open Go Go.RowKit
noncomputable section
set_option maxHeartbeats 16000000
variable {w0 : World} {Z : Zm} {fs : List XObj} {w : World}
noncomputable def cd32 (p : List Nat) : Code := sub (bodyOf Try.f32) p
abbrev p32_2:=cd32 [1,0]
abbrev p32_3:=cd32 [1,1]
abbrev p32_6:=cd32 [1,1,1,0,0]
abbrev p32_9:=cd32 [1,1,1,1,0,0]
abbrev p32_17:=cd32 [1,1,1,1,1,1,1,0,0]
abbrev p32_18:=cd32 [1,1,1,1,1,1,1,0,1]
abbrev p32_20:=cd32 [1,1,1,1,1,1,1,1,0]
abbrev p32_21:=cd32 [1,1,1,1,1,1,1,1,1]
abbrev p32_22:=cd32 [1,1,1,1,1,1,1,0,1,0]
abbrev p32_23:=cd32 [1,1,1,1,1,1,0,1,0]
abbrev td57:List Item:=[.code (cd32 [1,1,1,1])]
abbrev td58:List Item:=.code (cd32 [1,1,1,0,1])::td57
abbrev td59:List Item:=[.code (cd32 [1,1,1,1,1])]
abbrev td60:List Item:=.code (cd32 [1,1,1,1,0,1])::td59
abbrev td61:List Item:=[.code (cd32 [1,1,1,1,1,1,1])]
abbrev td62:List Item:=[.code (cd32 [1,1,1,1,1,1,1,1])]
def weirlaw14_Net__machine_3.f (a0 : ByteArray) (a1vv_0m a1vv_1m a1vv_2m : List (ByteArray × Int)) (a1vv_3 : Bool) (a2v : weirlaw14_Net) : Option (api_Final × Bool × Bool × (List (ByteArray × Int))) :=
  (weirlaw14_Net__number.f a2v a0 >>= (fun t8 => (((if (decide (((mget (mput a1vv_1m a0 (IntKind.i64.wrap (((mget a1vv_1m a0).getD (0 : Int)) + 1))) a0).getD (0 : Int)) > 1)) = true then some (true) else (if (decide (t8 < 0)) = true then some (true) else some (false))) : Option Bool) >>= (fun t16 => (((if t16 = true then some (true) else some (a1vv_3)) : Option Bool) >>= (fun t25 => (((if (decide (t8 < 0)) = true then some (true) else (if (decide (t8 ≥ (a2v.End.length : Int))) = true then some (true) else (if 0 ≤ t8 ∧ t8 < (a2v.End.length : Int) then (if (gt a2v.End t8) = true then some (false) else some (true)) else none))) : Option Bool) >>= (fun t34 => (if t34 = true then some (((⟨0,(Vector.replicate 48 0)⟩ : api_Final),false,t25,(mput a1vv_1m a0 (IntKind.i64.wrap (((mget a1vv_1m a0).getD (0 : Int)) + 1))))) else (((if (decide (t8 < (a2v.Value.length : Int))) = true then (if 0 ≤ t8 ∧ t8 < (a2v.Value.length : Int) then (if 0 ≤ (0 : Int) ∧ (0 : Int) < 48 then some ((⟨1,(vset (Vector.replicate 48 0) (0 : Int) (gt a2v.Value t8))⟩ : api_Final)) else none) else none) else some ((⟨1,(Vector.replicate 48 0)⟩ : api_Final))) : Option api_Final) >>= (fun t50 => (if 0 ≤ (0 : Int) ∧ (0 : Int) < 48 then (((if ((vget t50.V (0 : Int)) == 99) = true then some ((⟨(-1),t50.V⟩ : api_Final)) else some (t50)) : Option api_Final) >>= (fun t61 => some ((t61,true,t25,(mput a1vv_1m a0 (IntKind.i64.wrap (((mget a1vv_1m a0).getD (0 : Int)) + 1))))))) else none))))))))))))
theorem weirlaw14_Net__machine_3.ok {a0 : ByteArray} {a1vv_0m a1vv_1m a1vv_2m : List (ByteArray × Int)} {a1vv_3 : Bool} {a2v : weirlaw14_Net} {ba1 ba1v : Nat} {ba1vv_0 ba1vv_1 : Nat} {ba1vv_2 ba2 : Nat} {y10 : Option Addr} {y11 : Nat} {y12 : Option Addr} {y13 : Nat} {y14 : Option Addr} {y15 : Nat} {q0 : api_Final} {q1 q2 : Bool} {q3 : List (ByteArray × Int)} (hp0 : weirlaw14_Net__machine_3.f a0 a1vv_0m a1vv_1m a1vv_2m a1vv_3 a2v = some (q0,q1,q2,q3)) (hS0 : St w0 Z (xblk ba1 33 ([.pointer (some ⟨ba1v,0,none⟩)])::xblk ba1v 49 ([.map (some ba1vv_0),.map (some ba1vv_1),.map (some ba1vv_2),.bool a1vv_3])::xmap ba1vv_0 (a1vv_0m.map (kv Value.string (Value.int .i64)))::xmap ba1vv_1 (a1vv_1m.map (kv Value.string (Value.int .i64)))::xmap ba1vv_2 (a1vv_2m.map (kv Value.string (Value.int .i64)))::xblk ba2 26 ([.slice y10 a2v.Next.length y11,.slice y12 a2v.End.length y13,.slice y14 a2v.Value.length y15,.int .i64 a2v.Start])::fs) w) (y16 : SlZ (repL (flat (encI .i64)) 1) 1 Z y10 y11 a2v.Next) (y17 : SlZ (flat encB) 1 Z y12 y13 a2v.End) (y18 : SlZ (flat (encI .i64)) 1 Z y14 y15 a2v.Value) :
    Calls Try.prog 32 #[.string a0,.pointer (some ⟨ba1,0,none⟩),.pointer (some ⟨ba2,0,none⟩)] w (fun e w' => e = .returned (.tuple #[.agg (enc_api_Final q0).toArray,.bool q1]) ∧ St w0 Z (xblk ba1 33 ([.pointer (some ⟨ba1v,0,none⟩)])::xblk ba1v 49 ([.map (some ba1vv_0),.map (some ba1vv_1),.map (some ba1vv_2),.bool q2])::xmap ba1vv_0 (a1vv_0m.map (kv Value.string (Value.int .i64)))::xmap ba1vv_1 (q3.map (kv Value.string (Value.int .i64)))::xmap ba1vv_2 (a1vv_2m.map (kv Value.string (Value.int .i64)))::xblk ba2 26 ([.slice y10 a2v.Next.length y11,.slice y12 a2v.End.length y13,.slice y14 a2v.Value.length y15,.int .i64 a2v.Start])::fs) w'):=by
  refine calls_abs ?_; intro R hR
  unfold weirlaw14_Net__machine_3.f at hp0
  refine calls_of_runs (fn:=Try.f32) (c:=cd32 []) Try.func32 (by kernel_rfl) (al:=[.string a0,.pointer (some ⟨ba1,0,none⟩),.pointer (some ⟨ba2,0,none⟩)]) rfl (n:=66) rfl ?_
  refine sR 2 [.inRegion (opsOf (cd32 [0])) [0,1],.code (cd32 [1])] ?_
  refine rA 84 (.agg (enc_api_Final (⟨0,(Vector.replicate 48 0)⟩ : api_Final)).toArray) (enc_api_Final (⟨0,(Vector.replicate 48 0)⟩ : api_Final)) hS0 ?_
  intro b1 w2 hS3
  refine sR 4 [iR p32_2 0 8,.code p32_3] ?_
  refine rL1 33 (.tmp 1) 0 (hS3.blk 1 rfl) ?_
  refine sR 2 [iR p32_2 3 5,.code p32_3] ?_
  refine rL1 41 (.tmp 10) 1 (hS3.blk 2 rfl) ?_
  refine sR 1 [.inRegion (opsOf p32_2) [5,6,7],.code p32_3] ?_
  refine rV (.lookup 41 (.tmp 11) (.tmp 12) false) (.int .i64 ((mget a1vv_1m a0).getD (0 : Int))) (fun o ho _ => x_lookup1 (eK:=Value.string) (eV:=(Value.int .i64)) (dk:=.string) (b:=ba1vv_1) (t:=41) (kt:=9) (et:=3) (m:=a1vv_1m) (kk:=a0) (z:=(0 : Int)) (hS3.at 4 rfl) key_str (by kernel_rfl) (by kernel_rfl) (by kernel_rfl) (by kernel_rfl) (by kernel_rfl) ho) ?_
  refine sR 1 [.inRegion (opsOf p32_2) [7],.code p32_3] ?_
  have hS5:=hS3.pick4
  refine r_mapUpdate (c:=p32_2) (i:=7) (d:=none) (ty:=0) (eK:=Value.string) (eV:=(Value.int .i64)) (dk:=.string) (b:=ba1vv_1) (t:=41) (kt:=9) (et:=3) (x:=(.tmp 11)) (y:=(.tmp 12)) (z:=(.tmp 14)) (m:=a1vv_1m) (kk:=a0) (v:=(IntKind.i64.wrap (((mget a1vv_1m a0).getD (0 : Int)) + 1))) hS5 (by kernel_rfl) (by kernel_rfl) key_str (by kernel_rfl) (by kernel_rfl) (by kernel_rfl) (by kernel_rfl) (by kernel_rfl) ?_
  intro w6 hS7
  refine sR 3 [iR (cd32 [1,1,0]) 0 4,.code (cd32 [1,1,1])] ?_
  refine rLa 26 (.tmp 2) (hS7.blk 6 rfl) ?_
  refine sR 1 [.inRegion (opsOf (cd32 [1,1,0])) [2,3],.code (cd32 [1,1,1])] ?_
  obtain ⟨t8,hr9,hp10⟩:=bind_some' hp0
  refine rC (weirlaw14_Net__number.ok hr9 hS7 y16 y17 y18) ?_
  rintro _ w11 ⟨rfl,hS12⟩
  refine ⟨_,rfl,?_⟩
  refine sR 4 (.code p32_6::td58) ?_
  obtain ⟨v13,hv14,hp15⟩:=bind_some' hp10
  have J19 : ∀ (t16 : Bool) (he21 : t16 = v13) (l20 : List Value) (w17 : World) (hS18 : St w0 Z (xblk ba1 33 ([.pointer (some ⟨ba1v,0,none⟩)])::xblk ba1v 49 ([.map (some ba1vv_0),.map (some ba1vv_1),.map (some ba1vv_2),.bool a1vv_3])::xmap ba1vv_0 (a1vv_0m.map (kv Value.string (Value.int .i64)))::xmap ba1vv_1 ((mput a1vv_1m a0 (IntKind.i64.wrap (((mget a1vv_1m a0).getD (0 : Int)) + 1))).map (kv Value.string (Value.int .i64)))::xmap ba1vv_2 (a1vv_2m.map (kv Value.string (Value.int .i64)))::xblk ba2 26 ([.slice y10 a2v.Next.length y11,.slice y12 a2v.End.length y13,.slice y14 a2v.Value.length y15,.int .i64 a2v.Start])::xblk b1 84 (enc_api_Final (⟨0,(Vector.replicate 48 0)⟩ : api_Final))::fs) w17),Runs Try.prog (fx 32) td58 (fill (mk 69 [(1,.pointer (some ⟨ba1,0,none⟩)),(2,.pointer (some ⟨ba2,0,none⟩)),(4,.pointer (some ⟨b1,0,none⟩)),(6,.int .i64 t8),(28,.bool t16)]) l20) w17 R:=by
   intro t16 he21 l20 w17 hS18
   subst he21
   try dsimp only at hp15
   obtain ⟨v22,hv23,hp24⟩:=bind_some' hp15
   have J28 : ∀ (t25 : Bool) (he30 : t25 = v22) (l29 : List Value) (w26 : World) (hS27 : St w0 Z (xblk ba2 26 ([.slice y10 a2v.Next.length y11,.slice y12 a2v.End.length y13,.slice y14 a2v.Value.length y15,.int .i64 a2v.Start])::xblk b1 84 (enc_api_Final (⟨0,(Vector.replicate 48 0)⟩ : api_Final))::xblk ba1 33 ([.pointer (some ⟨ba1v,0,none⟩)])::xblk ba1v 49 ([.map (some ba1vv_0),.map (some ba1vv_1),.map (some ba1vv_2),.bool t25])::xmap ba1vv_0 (a1vv_0m.map (kv Value.string (Value.int .i64)))::xmap ba1vv_1 ((mput a1vv_1m a0 (IntKind.i64.wrap (((mget a1vv_1m a0).getD (0 : Int)) + 1))).map (kv Value.string (Value.int .i64)))::xmap ba1vv_2 (a1vv_2m.map (kv Value.string (Value.int .i64)))::fs) w26),Runs Try.prog (fx 32) td57 (fill (mk 69 [(2,.pointer (some ⟨ba2,0,none⟩)),(4,.pointer (some ⟨b1,0,none⟩)),(6,.int .i64 t8)]) l29) w26 R:=by
    intro t25 he30 l29 w26 hS27
    subst he30
    try dsimp only at hp24
    refine sR 2 (.code p32_9::td60) ?_
    obtain ⟨v31,hv32,hp33⟩:=bind_some' hp24
    have J37 : ∀ (t34 : Bool) (he39 : t34 = v31) (l38 : List Value) (w35 : World) (hS36 : St w0 Z (xblk ba2 26 ([.slice y10 a2v.Next.length y11,.slice y12 a2v.End.length y13,.slice y14 a2v.Value.length y15,.int .i64 a2v.Start])::xblk b1 84 (enc_api_Final (⟨0,(Vector.replicate 48 0)⟩ : api_Final))::xblk ba1 33 ([.pointer (some ⟨ba1v,0,none⟩)])::xblk ba1v 49 ([.map (some ba1vv_0),.map (some ba1vv_1),.map (some ba1vv_2),.bool t25])::xmap ba1vv_0 (a1vv_0m.map (kv Value.string (Value.int .i64)))::xmap ba1vv_1 ((mput a1vv_1m a0 (IntKind.i64.wrap (((mget a1vv_1m a0).getD (0 : Int)) + 1))).map (kv Value.string (Value.int .i64)))::xmap ba1vv_2 (a1vv_2m.map (kv Value.string (Value.int .i64)))::fs) w35),Runs Try.prog (fx 32) td60 (fill (mk 69 [(2,.pointer (some ⟨ba2,0,none⟩)),(4,.pointer (some ⟨b1,0,none⟩)),(6,.int .i64 t8),(48,.bool t34)]) l38) w35 R:=by
     intro t34 he39 l38 w35 hS36
     subst he39
     try dsimp only at hp33
     cases t34
     ·have hp40:=ite_f hp33 rfl
      refine sR 4 [.inRegion (opsOf (cd32 [1,1,1,1,1,0])) [0,1,2],.code (cd32 [1,1,1,1,1,1])] ?_
      refine rV (.build 84 #[(0,(.const (.int .i64 1)))]) (.agg (enc_api_Final (⟨1,(Vector.replicate 48 0)⟩ : api_Final)).toArray) (fun o ho _ => x_build (t:=84) (c:=(enc_api_Final (⟨1,(Vector.replicate 48 0)⟩ : api_Final) : List Value).toArray) (ps:=#[(0,(.const (.int .i64 1)))]) Try.underlying84 hz_84 hp_84 (by kernel_rfl) ho) ?_
      refine rA 84 (.agg (enc_api_Final (⟨0,(Vector.replicate 48 0)⟩ : api_Final)).toArray) (enc_api_Final (⟨0,(Vector.replicate 48 0)⟩ : api_Final)) hS36 ?_
      intro b41 w42 hS43
      refine r_store (c:=(cd32 [1,1,1,1,1,0])) (i:=2) (d:=none) (ty:=0) (t:=84) (x:=(.tmp 7)) (y:=(.tmp 50)) (b:=b41) (o:=0) (e:=84) (cs:=enc_api_Final (⟨0,(Vector.replicate 48 0)⟩ : api_Final)) (v:=.agg (enc_api_Final (⟨1,(Vector.replicate 48 0)⟩ : api_Final)).toArray) (vs:=enc_api_Final (⟨1,(Vector.replicate 48 0)⟩ : api_Final)) (cs':=enc_api_Final (⟨1,(Vector.replicate 48 0)⟩ : api_Final)) hS43 (by kernel_rfl) (by kernel_rfl) (by kernel_rfl) (by kernel_rfl) (by kernel_rfl) (lenK (len_api_Final _) (by kernel_rfl)) (one_api_Final _) (by simp only [len_api_Final,List.length_cons,List.length_nil,List.length_append]; omega) (over_all ((len_api_Final _).trans (len_api_Final _).symm)) ?_
      intro w45 hS46
      refine sR 6 (.inRegion (opsOf (cd32 [1,1,1,1,1,1,0,0])) [2,3,4]::.code (cd32 [1,1,1,1,1,1,0,1])::td61) ?_
      refine rL1 24 (.tmp 52) 2 (hS46.blk 1 rfl) ?_
      obtain ⟨v47,hv48,hp49⟩:=bind_some' hp40
      have J53 : ∀ (t50 : api_Final) (he55 : t50 = v47) (l54 : List Value) (w51 : World) (hS52 : St w0 Z (xblk b1 84 (enc_api_Final (⟨0,(Vector.replicate 48 0)⟩ : api_Final))::xblk b41 84 (enc_api_Final t50)::xblk ba1 33 ([.pointer (some ⟨ba1v,0,none⟩)])::xblk ba1v 49 ([.map (some ba1vv_0),.map (some ba1vv_1),.map (some ba1vv_2),.bool t25])::xmap ba1vv_0 (a1vv_0m.map (kv Value.string (Value.int .i64)))::xmap ba1vv_1 ((mput a1vv_1m a0 (IntKind.i64.wrap (((mget a1vv_1m a0).getD (0 : Int)) + 1))).map (kv Value.string (Value.int .i64)))::xmap ba1vv_2 (a1vv_2m.map (kv Value.string (Value.int .i64)))::xblk ba2 26 ([.slice y10 a2v.Next.length y11,.slice y12 a2v.End.length y13,.slice y14 a2v.Value.length y15,.int .i64 a2v.Start])::fs) w51),Runs Try.prog (fx 32) td61 (fill (mk 69 [(4,.pointer (some ⟨b1,0,none⟩)),(7,.pointer (some ⟨b41,0,none⟩))]) l54) w51 R:=by
       intro t50 he55 l54 w51 hS52
       subst he55
       try dsimp only at hp49
       refine sR 4 (.inRegion (opsOf p32_17) [1,2,3]::.code p32_18::td62) ?_
       obtain ⟨g56,hp57⟩:=ite_some hp49
       refine r_indexArr (c:=p32_17) (i:=1) (d:=(some 64)) (ty:=0) (t:=82) (e:=2) (sz:=1) (kk:=.i64) (x:=(.tmp 63)) (y:=(.const (.int .i64 0))) (b:=b41) (o':=1) (n:=48) (j:=(0 : Int)) (by kernel_rfl) (by kernel_rfl) (by kernel_rfl) (by kernel_rfl) (by kernel_rfl) (by kernel_rfl) g56.1 g56.2 ?_
       refine rL1 2 (.tmp 64) 0 (cells_vget (sub_api_Final_V (hS52.blk 1 rfl)) (len_encI .i64) g56.1 g56.2) ?_
       obtain ⟨v58,hv59,hp60⟩:=bind_some' hp57
       have J64 : ∀ (t61 : api_Final) (he66 : t61 = v58) (l65 : List Value) (w62 : World) (hS63 : St w0 Z (xblk b1 84 (enc_api_Final (⟨0,(Vector.replicate 48 0)⟩ : api_Final))::xblk b41 84 (enc_api_Final t61)::xblk ba1 33 ([.pointer (some ⟨ba1v,0,none⟩)])::xblk ba1v 49 ([.map (some ba1vv_0),.map (some ba1vv_1),.map (some ba1vv_2),.bool t25])::xmap ba1vv_0 (a1vv_0m.map (kv Value.string (Value.int .i64)))::xmap ba1vv_1 ((mput a1vv_1m a0 (IntKind.i64.wrap (((mget a1vv_1m a0).getD (0 : Int)) + 1))).map (kv Value.string (Value.int .i64)))::xmap ba1vv_2 (a1vv_2m.map (kv Value.string (Value.int .i64)))::xblk ba2 26 ([.slice y10 a2v.Next.length y11,.slice y12 a2v.End.length y13,.slice y14 a2v.Value.length y15,.int .i64 a2v.Start])::fs) w62),Runs Try.prog (fx 32) td62 (fill (mk 69 [(4,.pointer (some ⟨b1,0,none⟩)),(7,.pointer (some ⟨b41,0,none⟩))]) l65) w62 R:=by
        intro t61 he66 l65 w62 hS63
        subst he66
        try dsimp only at hp60
        refine sR 2 [.inRegion (opsOf p32_20) [0,1,2],.code p32_21] ?_
        refine rL 84 (.tmp 7) (loads_agg (hS63.blk 1 rfl) (by kernel_rfl) (lenK (len_api_Final _) (by kernel_rfl))) ?_
        refine r_store (c:=p32_20) (i:=1) (d:=none) (ty:=0) (t:=84) (x:=(.tmp 4)) (y:=(.tmp 68)) (b:=b1) (o:=0) (e:=84) (cs:=enc_api_Final (⟨0,(Vector.replicate 48 0)⟩ : api_Final)) (v:=.agg (enc_api_Final t61).toArray) (vs:=enc_api_Final t61) (cs':=enc_api_Final t61) hS63 (by kernel_rfl) (by kernel_rfl) (by kernel_rfl) (by kernel_rfl) (by kernel_rfl) (lenK (len_api_Final _) (by kernel_rfl)) (one_api_Final _) (by simp only [len_api_Final,List.length_cons,List.length_nil,List.length_append]; omega) (over_all ((len_api_Final _).trans (len_api_Final _).symm)) ?_
        intro w67 hS68
        refine sR 2 [.code p32_21] ?_
        have hS69:=hS68.drop
        have hS70:=hS69.drop
        refine runs_ret (fn:=Try.f32) (v:=.tuple #[.agg (enc_api_Final t61).toArray,.bool true]) Try.func32 (resl_run (fn:=Try.f32) (by kernel_rfl) (.cell (t:=4) (ty:=84) (by kernel_rfl) (loads_agg (hS68.blk 0 rfl) (by kernel_rfl) (lenK (len_api_Final _) (by kernel_rfl))) (.tmp (t:=5) (by kernel_rfl) .nil))) ?_
        cases Option.some.inj hp60
        exact hR _ _ ⟨rfl,hS70⟩
       refine sI 1 (.inRegion (opsOf p32_17) []::.code p32_18::td62) 66 hv59 (fun hp74 => ?_) fun hp86 => ?_
       ·refine sR 4 (.inRegion (opsOf p32_22) [1]::td62) ?_
        have hS75:=hS52.pick1
        refine r_store (c:=p32_22) (i:=1) (d:=none) (ty:=0) (t:=3) (x:=(.tmp 67)) (y:=(.const (.int .i64 (-1)))) (b:=b41) (o:=0) (e:=84) (cs:=enc_api_Final t50) (v:=.int .i64 (-1)) (vs:=[.int .i64 (-1)]) (cs':=enc_api_Final (⟨(-1),t50.V⟩ : api_Final)) hS75 (by kernel_rfl) (by kernel_rfl) (by kernel_rfl) (by kernel_rfl) (by kernel_rfl) (by kernel_rfl) (by kernel_rfl) (by simp only [len_api_Final,List.length_cons,List.length_nil,List.length_append]; omega) (put_api_Final_N _ _) ?_
        intro w76 hS77
        refine sR 1 td62 ?_
        have hS78:=hS77.pick7
        have hS79:=hS78.pick7
        have hS80:=hS79.pick7
        have hS81:=hS80.pick7
        have hS82:=hS81.pick7
        have hS83:=hS82.pick7
        have hS84:=hS83.pick6
        have hS85:=hS84.pick7
        exact rF _ (J64 (⟨(-1),t50.V⟩ : api_Final) (Option.some.inj hp74) _ _ hS85)
       refine sR 3 td62 ?_
       exact rF _ (J64 t50 (Option.some.inj hp86) _ _ hS52)
      refine sI 2 (.inRegion (opsOf (cd32 [1,1,1,1,1,1,0,0])) []::.code (cd32 [1,1,1,1,1,1,0,1])::td61) 55 hv48 (fun hp89 => ?_) fun hp108 => ?_
      ·refine sR 4 (iR p32_23 1 7::td61) ?_
       refine rL1 24 (.tmp 56) 2 (hS46.blk 1 rfl) ?_
       refine sR 1 (iR p32_23 3 5::td61) ?_
       obtain ⟨g90,hp91⟩:=ite_some hp89
       obtain ⟨b92,p93,hA94,hc95⟩:=y18.atF g90.1 g90.2
       refine r_indexAddr (c:=p32_23) (i:=3) (d:=(some 59)) (ty:=0) (t:=24) (e:=2) (n:=a2v.Value.length) (cp:=y15) (sz:=1) (kk:=.i64) (x:=(.tmp 57)) (y:=(.tmp 58)) (b:=b92) (o':=p93) (j:=t8) (by kernel_rfl) (by kernel_rfl) (slv (by kernel_rfl) hA94) (by kernel_rfl) (by kernel_rfl) (by kernel_rfl) g90.1 g90.2 ?_
       refine rL1 2 (.tmp 59) 0 (hc95.cells hS46) ?_
       refine sR 1 (.inRegion (opsOf p32_23) [6,7]::td61) ?_
       obtain ⟨g96,hp97⟩:=ite_some hp91
       refine r_indexArr (c:=p32_23) (i:=6) (d:=(some 62)) (ty:=0) (t:=82) (e:=2) (sz:=1) (kk:=.i64) (x:=(.tmp 61)) (y:=(.const (.int .i64 0))) (b:=b41) (o':=1) (n:=48) (j:=(0 : Int)) (by kernel_rfl) (by kernel_rfl) (by kernel_rfl) (by kernel_rfl) (by kernel_rfl) (by kernel_rfl) g96.1 g96.2 ?_
       refine r_store (c:=p32_23) (i:=7) (d:=none) (ty:=0) (t:=2) (x:=(.tmp 62)) (y:=(.tmp 60)) (b:=b41) (o:=1 + (0 : Int).toNat * 1) (e:=84) (cs:=enc_api_Final (⟨1,(Vector.replicate 48 0)⟩ : api_Final)) (v:=.int .i64 (gt a2v.Value t8)) (vs:=[.int .i64 (gt a2v.Value t8)]) (cs':=enc_api_Final (⟨1,(vset (Vector.replicate 48 0) (0 : Int) (gt a2v.Value t8))⟩ : api_Final)) hS46 (by kernel_rfl) (by kernel_rfl) (by kernel_rfl) (by kernel_rfl) (by kernel_rfl) (by kernel_rfl) (by kernel_rfl) (by have:=g96.1; have:=g96.2; simp only [len_api_Final,List.length_cons,List.length_nil,List.length_append]; omega) (over_api_Final_V _ _ _ g96.1 g96.2) ?_
       intro w98 hS99
       refine sR 1 td61 ?_
       have hS100:=hS99.pick1
       have hS101:=hS100.pick7
       have hS102:=hS101.pick7
       have hS103:=hS102.pick7
       have hS104:=hS103.pick7
       have hS105:=hS104.pick7
       have hS106:=hS105.pick6
       have hS107:=hS106.pick7
       exact rF _ (J53 (⟨1,(vset (Vector.replicate 48 0) (0 : Int) (gt a2v.Value t8))⟩ : api_Final) (Option.some.inj hp97) _ _ hS107)
      refine sR 3 td61 ?_
      have hS109:=hS46.pick1
      have hS110:=hS109.pick7
      have hS111:=hS110.pick7
      have hS112:=hS111.pick7
      have hS113:=hS112.pick7
      have hS114:=hS113.pick7
      have hS115:=hS114.pick6
      have hS116:=hS115.pick7
      exact rF _ (J53 (⟨1,(Vector.replicate 48 0)⟩ : api_Final) (Option.some.inj hp108) _ _ hS116)
     have hp117:=ite_t hp33 rfl
     refine sR 3 (.inRegion (opsOf (cd32 [1,1,1,1,0,1,0,0])) [0,1,2]::.code (cd32 [1,1,1,1,0,1,0,1])::td59) ?_
     refine rV (.build 84 #[]) (.agg (enc_api_Final (⟨0,(Vector.replicate 48 0)⟩ : api_Final)).toArray) (fun o ho _ => x_build (t:=84) (c:=(enc_api_Final (⟨0,(Vector.replicate 48 0)⟩ : api_Final) : List Value).toArray) (ps:=#[]) Try.underlying84 hz_84 hp_84 (by kernel_rfl) ho) ?_
     have hS118:=hS36.pick1
     refine r_store (c:=(cd32 [1,1,1,1,0,1,0,0])) (i:=1) (d:=none) (ty:=0) (t:=84) (x:=(.tmp 4)) (y:=(.tmp 49)) (b:=b1) (o:=0) (e:=84) (cs:=enc_api_Final (⟨0,(Vector.replicate 48 0)⟩ : api_Final)) (v:=.agg (enc_api_Final (⟨0,(Vector.replicate 48 0)⟩ : api_Final)).toArray) (vs:=enc_api_Final (⟨0,(Vector.replicate 48 0)⟩ : api_Final)) (cs':=enc_api_Final (⟨0,(Vector.replicate 48 0)⟩ : api_Final)) hS118 (by kernel_rfl) (by kernel_rfl) (by kernel_rfl) (by kernel_rfl) (by kernel_rfl) (lenK (len_api_Final _) (by kernel_rfl)) (one_api_Final _) (by simp only [len_api_Final,List.length_cons,List.length_nil,List.length_append]; omega) (over_all ((len_api_Final _).trans (len_api_Final _).symm)) ?_
     intro w119 hS120
     refine sR 2 (.code (cd32 [1,1,1,1,0,1,0,1])::td59) ?_
     have hS121:=hS120.drop
     have hS122:=hS121.pick5
     have hS123:=hS122.pick5
     have hS124:=hS123.pick5
     have hS125:=hS124.pick5
     have hS126:=hS125.pick5
     refine runs_ret (fn:=Try.f32) (v:=.tuple #[.agg (enc_api_Final (⟨0,(Vector.replicate 48 0)⟩ : api_Final)).toArray,.bool false]) Try.func32 (resl_run (fn:=Try.f32) (by kernel_rfl) (.cell (t:=4) (ty:=84) (by kernel_rfl) (loads_agg (hS120.blk 0 rfl) (by kernel_rfl) (lenK (len_api_Final _) (by kernel_rfl))) (.tmp (t:=5) (by kernel_rfl) .nil))) ?_
     cases Option.some.inj hp117
     exact hR _ _ ⟨rfl,hS126⟩
    refine sI 3 (iR p32_9 2 15::td60) 33 hv32 (fun hp130 => ?_) fun hp131 => ?_
    ·refine sR 16 td60 ?_
     exact rF _ (J37 true (Option.some.inj hp130) _ _ hS27)
    refine sR 3 (iR p32_9 5 12::td60) ?_
    refine rL1 23 (.tmp 36) 1 (hS27.blk 0 rfl) ?_
    refine sI 2 (iR p32_9 8 9::td60) 39 hp131 (fun hp134 => ?_) fun hp135 => ?_
    ·refine sR 10 td60 ?_
     exact rF _ (J37 true (Option.some.inj hp134) _ _ hS27)
    refine sR 3 (iR p32_9 11 6::td60) ?_
    refine rL1 23 (.tmp 42) 1 (hS27.blk 0 rfl) ?_
    refine sR 1 (iR p32_9 13 4::td60) ?_
    obtain ⟨g136,hp137⟩:=ite_some hp135
    obtain ⟨b138,p139,hA140,hc141⟩:=y17.atF g136.1 g136.2
    refine r_indexAddr (c:=p32_9) (i:=13) (d:=(some 45)) (ty:=0) (t:=23) (e:=4) (n:=a2v.End.length) (cp:=y13) (sz:=1) (kk:=.i64) (x:=(.tmp 43)) (y:=(.tmp 44)) (b:=b138) (o':=p139) (j:=t8) (by kernel_rfl) (by kernel_rfl) (slv (by kernel_rfl) hA140) (by kernel_rfl) (by kernel_rfl) (by kernel_rfl) g136.1 g136.2 ?_
    refine rL1 4 (.tmp 45) 0 (hc141.cells hS27) ?_
    refine r_split (gt a2v.End t8) (fun h142 => ?_) (fun h143 => ?_)
    ·have hp144:=ite_t hp137 h142
     refine sR 3 td60 ?_
     exact rF _ (J37 false (Option.some.inj hp144) _ _ hS27)
    have hp145:=ite_f hp137 h143
    refine sR 3 td60 ?_
    exact rF _ (J37 true (Option.some.inj hp145) _ _ hS27)
   cases t16
   ·have hp146:=ite_f hv23 rfl
    refine sR 2 td57 ?_
    have hS147:=hS18.pick4
    have hS148:=hS147.pick4
    have hS149:=hS148.pick4
    have hS150:=hS149.pick4
    have hS151:=hS150.pick4
    have hS152:=hS151.pick6
    have hS153:=hS152.pick6
    exact rF _ (J28 a1vv_3 (Option.some.inj hp146) _ _ hS153)
   have hp154:=ite_t hv23 rfl
   refine sR 2 (iR (cd32 [1,1,1,0,1,0]) 0 4::td57) ?_
   refine rL1 33 (.tmp 1) 0 (hS18.blk 0 rfl) ?_
   refine sR 2 (.inRegion (opsOf (cd32 [1,1,1,0,1,0])) [3]::td57) ?_
   have hS155:=hS18.pick1
   refine rS 4 (.tmp 31) (.const (.bool true)) 3 (.bool true) [.bool true] [.map (some ba1vv_0),.map (some ba1vv_1),.map (some ba1vv_2),.bool true] hS155 ?_
   intro w156 hS157
   refine sR 1 td57 ?_
   have hS158:=hS157.pick4
   have hS159:=hS158.pick4
   have hS160:=hS159.pick4
   have hS161:=hS160.pick3
   have hS162:=hS161.pick4
   have hS163:=hS162.pick6
   have hS164:=hS163.pick6
   exact rF _ (J28 true (Option.some.inj hp154) _ _ hS164)
  refine sR 1 (iR p32_6 0 11::td58) ?_
  refine rL1 33 (.tmp 1) 0 (hS12.blk 2 rfl) ?_
  refine sR 2 (iR p32_6 3 8::td58) ?_
  refine rL1 41 (.tmp 20) 1 (hS12.blk 3 rfl) ?_
  refine sR 1 (iR p32_6 5 6::td58) ?_
  refine rV (.lookup 41 (.tmp 21) (.tmp 22) false) (.int .i64 ((mget (mput a1vv_1m a0 (IntKind.i64.wrap (((mget a1vv_1m a0).getD (0 : Int)) + 1))) a0).getD (0 : Int))) (fun o ho _ => x_lookup1 (eK:=Value.string) (eV:=(Value.int .i64)) (dk:=.string) (b:=ba1vv_1) (t:=41) (kt:=9) (et:=3) (m:=(mput a1vv_1m a0 (IntKind.i64.wrap (((mget a1vv_1m a0).getD (0 : Int)) + 1)))) (kk:=a0) (z:=(0 : Int)) (hS12.at 0 rfl) key_str (by kernel_rfl) (by kernel_rfl) (by kernel_rfl) (by kernel_rfl) (by kernel_rfl) ho) ?_
  refine sI 1 (iR p32_6 7 4::td58) 24 hv14 (fun hp167 => ?_) fun hp175 => ?_
  ·refine sR 5 td58 ?_
   have hS168:=hS12.pick1
   have hS169:=hS168.pick6
   have hS170:=hS169.pick6
   have hS171:=hS170.pick3
   have hS172:=hS171.pick6
   have hS173:=hS172.pick6
   have hS174:=hS173.pick6
   exact rF _ (J19 true (Option.some.inj hp167) _ _ hS174)
  refine sI 3 (.inRegion (opsOf p32_6) [10]::td58) 27 hp175 (fun hp178 => ?_) fun hp186 => ?_
  ·refine sR 2 td58 ?_
   have hS179:=hS12.pick1
   have hS180:=hS179.pick6
   have hS181:=hS180.pick6
   have hS182:=hS181.pick3
   have hS183:=hS182.pick6
   have hS184:=hS183.pick6
   have hS185:=hS184.pick6
   exact rF _ (J19 true (Option.some.inj hp178) _ _ hS185)
  refine sR 2 td58 ?_
  have hS187:=hS12.pick1
  have hS188:=hS187.pick6
  have hS189:=hS188.pick6
  have hS190:=hS189.pick3
  have hS191:=hS190.pick6
  have hS192:=hS191.pick6
  have hS193:=hS192.pick6
  exact rF _ (J19 false (Option.some.inj hp186) _ _ hS193)

noncomputable def cd33 (p : List Nat) : Code := sub (bodyOf Try.f33) p
abbrev p33_9:=cd33 [1,1,1,1]
abbrev p33_13:=cd33 [1,1,1,1,0]
abbrev p33_14:=cd33 [1,1,1,1,1]
abbrev p33_15:=cd33 [1,1,1,1,1,0]
abbrev p33_17:=cd33 [1,1,1,1,1,1,0]
abbrev p33_18:=cd33 [1,1,1,1,1,1,1]
abbrev p33_19:=cd33 [1,1,1,1,1,1,1,0]
abbrev p33_20:=cd33 [1,1,1,1,1,1,1,1]
abbrev p33_21:=cd33 [1,1,1,1,1,1,1,1,0]
abbrev p33_22:=cd33 [1,1,1,1,1,1,1,1,1]
abbrev p33_23:=cd33 [1,1,1,1,1,1,1,1,1,0]
abbrev p33_24:=cd33 [1,1,1,1,1,1,1,1,1,1]
abbrev p33_25:=cd33 [1,1,1,1,1,1,1,1,1,1,0]
abbrev p33_27:=cd33 [1,1,1,1,1,1,1,1,1,1,1,0]
abbrev p33_28:=cd33 [1,1,1,1,1,1,1,1,1,1,1,1]
abbrev p33_29:=cd33 [1,1,1,1,1,1,1,1,1,1,1,1,0]
abbrev p33_32:=cd33 [1,1,1,1,1,1,1,1,1,1,1,1,1,1]
abbrev td63:List Item:=[.code (cd33 [1,1,0,1]),.code (cd33 [1,1,1])]
abbrev td64:List Item:=.code (cd33 [1,1,0,0])::td63
def weirref14_Graph__put.f (y20 : List ByteArray) (y21 : List Int) (y22 : List (List weirref14_Move)) (y23 : List Bool) (y24 : List api_Final) (y25 : List Int) (y26 : List api_Pick) (y27 : Bool) (a0v_8m : List (ByteArray × Int)) (y28 : ByteArray) (a1_1c0vv_0m a1_1c0vv_1m a1_1c0vv_2m : List (ByteArray × Int)) (a1_1c0vv_3 : Bool) (a1_1c1v : weirlaw14_Net) (a2 : Int) (a3 : ByteArray) (a4 a5 : Int) (a6 : api_Pick) : Option (Int × (List ByteArray) × (List Int) × (List (List weirref14_Move)) × (List Bool) × (List api_Final) × (List Int) × (List api_Pick) × Bool × (List (ByteArray × Int)) × Bool × (List (ByteArray × Int))) :=
  (((if (mget a0v_8m a3).isSome = true then some ((((mget a0v_8m a3).getD (0 : Int)),true)) else some ((((mget a0v_8m a3).getD (0 : Int)),false))) : Option (Int × Bool)) >>= (fun (t12,t13) => (if t13 = true then some ((t12,y20,y21,y22,y23,y24,y25,y26,y27,a0v_8m,a1_1c0vv_3,a1_1c0vv_1m)) else (if (decide ((y20.length : Int) ≥ a2)) = true then some (((-1),y20,y21,y22,y23,y24,y25,y26,false,a0v_8m,a1_1c0vv_3,a1_1c0vv_1m)) else (weirlaw14_Net__machine_3.f a3 a1_1c0vv_0m a1_1c0vv_1m a1_1c0vv_2m a1_1c0vv_3 a1_1c1v >>= (fun (t46,t47,t48,t49) => (if (y20.length + ([a3] : List ByteArray).length) * 16 ≤ 140737488355328 then (if (y21.length + ([a4] : List Int).length) * 8 ≤ 140737488355328 then (if (y22.length + 1) * 24 ≤ 140737488355328 then (if (y23.length + ([t47] : List Bool).length) * 1 ≤ 140737488355328 then (if (y24.length + ([t46] : List api_Final).length) * 392 ≤ 140737488355328 then (if (y25.length + ([a5] : List Int).length) * 8 ≤ 140737488355328 then (if (y26.length + ([a6] : List api_Pick).length) * 24 ≤ 140737488355328 then some (((IntKind.i64.wrap (((y20 ++ ([a3] : List ByteArray)).length : Int) - 1)),(y20 ++ ([a3] : List ByteArray)),(y21 ++ ([a4] : List Int)),(y22 ++ [([] : List weirref14_Move)]),(y23 ++ ([t47] : List Bool)),(y24 ++ ([t46] : List api_Final)),(y25 ++ ([a5] : List Int)),(y26 ++ ([a6] : List api_Pick)),y27,(mput a0v_8m a3 (y20.length : Int)),t48,t49)) else none) else none) else none) else none) else none) else none) else none)))))))
theorem weirref14_Graph__put.ok {y20 : List ByteArray} {y21 : List Int} {y22 : List (List weirref14_Move)} {y23 : List Bool} {y24 : List api_Final} {y25 : List Int} {y26 : List api_Pick} {y27 : Bool} {a0v_8m : List (ByteArray × Int)} {y28 : ByteArray} {a1_1c0vv_0m a1_1c0vv_1m a1_1c0vv_2m : List (ByteArray × Int)} {a1_1c0vv_3 : Bool} {a1_1c1v : weirlaw14_Net} {a2 : Int} {a3 : ByteArray} {a4 a5 : Int} {a6 : api_Pick} {ba0 : Nat} {y29 : Option Addr} {y30 : Nat} {y31 : Option Addr} {y32 : Nat} {y33 : Option Addr} {y34 : Nat} {y35 : Nat → Option Addr × Nat} {y36 : Option Addr} {y37 : Nat} {y38 : Option Addr} {y39 : Nat} {y40 : Option Addr} {y41 : Nat} {y42 : Option Addr} {y43 y44 : Nat} {ba1_1c0 ba1_1c0v : Nat} {ba1_1c0vv_0 ba1_1c0vv_1 : Nat} {ba1_1c0vv_2 ba1_1c1 : Nat} {Aa1_1c1v_0 : Option Addr} {ca1_1c1v_0 : Nat} {Aa1_1c1v_1 : Option Addr} {ca1_1c1v_1 : Nat} {Aa1_1c1v_2 : Option Addr} {ca1_1c1v_2 : Nat} {q0 : Int} {q1 : List ByteArray} {q2 : List Int} {q3 : List (List weirref14_Move)} {q4 : List Bool} {q5 : List api_Final} {q6 : List Int} {q7 : List api_Pick} {q8 : Bool} {q9 : List (ByteArray × Int)} {q10 : Bool} {q11 : List (ByteArray × Int)} (hp0 : weirref14_Graph__put.f y20 y21 y22 y23 y24 y25 y26 y27 a0v_8m y28 a1_1c0vv_0m a1_1c0vv_1m a1_1c0vv_2m a1_1c0vv_3 a1_1c1v a2 a3 a4 a5 a6 = some (q0,q1,q2,q3,q4,q5,q6,q7,q8,q9,q10,q11)) (hS0 : St w0 Z (xblk ba0 43 ([.slice y29 y20.length y30,.slice y31 y21.length y32,.slice y33 y22.length y34,.slice y36 y23.length y37,.slice y38 y24.length y39,.slice y40 y25.length y41,.slice y42 y26.length y43,.bool y27,.map (some y44)])::xrow y29 y30 9 1 (y20.flatMap encS)::xrow y31 y32 3 1 (y21.flatMap (encI .i64))::xrr y33 y34 93 y35 95 4 enc_weirref14_Move y22::xrow y36 y37 4 1 (y23.flatMap encB)::xrow y38 y39 84 49 (y24.flatMap enc_api_Final)::xrow y40 y41 3 1 (y25.flatMap (encI .i64))::xrow y42 y43 88 3 (y26.flatMap enc_api_Pick)::xmap y44 (a0v_8m.map (kv Value.string (Value.int .i64)))::xblk ba1_1c0 33 ([.pointer (some ⟨ba1_1c0v,0,none⟩)])::xblk ba1_1c0v 49 ([.map (some ba1_1c0vv_0),.map (some ba1_1c0vv_1),.map (some ba1_1c0vv_2),.bool a1_1c0vv_3])::xmap ba1_1c0vv_0 (a1_1c0vv_0m.map (kv Value.string (Value.int .i64)))::xmap ba1_1c0vv_1 (a1_1c0vv_1m.map (kv Value.string (Value.int .i64)))::xmap ba1_1c0vv_2 (a1_1c0vv_2m.map (kv Value.string (Value.int .i64)))::xblk ba1_1c1 26 ([.slice Aa1_1c1v_0 a1_1c1v.Next.length ca1_1c1v_0,.slice Aa1_1c1v_1 a1_1c1v.End.length ca1_1c1v_1,.slice Aa1_1c1v_2 a1_1c1v.Value.length ca1_1c1v_2,.int .i64 a1_1c1v.Start])::fs) w) (ha1_1c1v_0 : SlZ (repL (flat (encI .i64)) 1) 1 Z Aa1_1c1v_0 ca1_1c1v_0 a1_1c1v.Next) (ha1_1c1v_1 : SlZ (flat encB) 1 Z Aa1_1c1v_1 ca1_1c1v_1 a1_1c1v.End) (ha1_1c1v_2 : SlZ (flat (encI .i64)) 1 Z Aa1_1c1v_2 ca1_1c1v_2 a1_1c1v.Value) :
    Calls Try.prog 33 #[.pointer (some ⟨ba0,0,none⟩),.agg #[.string y28,.func (.func 28) #[] #[.pointer (some ⟨ba1_1c0,0,none⟩),.pointer (some ⟨ba1_1c1,0,none⟩)],.func (.func 31) #[] #[.pointer (some ⟨ba1_1c1,0,none⟩),.pointer (some ⟨ba1_1c0,0,none⟩)],.func (.func 32) #[] #[.pointer (some ⟨ba1_1c0,0,none⟩),.pointer (some ⟨ba1_1c1,0,none⟩)]],.int .i64 a2,.string a3,.int .i64 a4,.int .i64 a5,.agg (enc_api_Pick a6).toArray] w (fun e w' => ∃ (QA0 : Option Addr) (Qc0 : Nat) (QA2 : Option Addr) (Qc2 : Nat) (QA4 : Option Addr) (Qc4 : Nat) (Qh4 : Nat → Option Addr × Nat) (QA7 : Option Addr) (Qc7 : Nat) (QA9 : Option Addr) (Qc9 : Nat) (QA11 : Option Addr) (Qc11 : Nat) (QA13 : Option Addr) (Qc13 : Nat),e = .returned (.int .i64 q0) ∧ St w0 Z (xrow QA0 Qc0 9 1 (q1.flatMap encS)::xrow QA2 Qc2 3 1 (q2.flatMap (encI .i64))::xrr QA4 Qc4 93 Qh4 95 4 enc_weirref14_Move q3::xrow QA7 Qc7 4 1 (q4.flatMap encB)::xrow QA9 Qc9 84 49 (q5.flatMap enc_api_Final)::xrow QA11 Qc11 3 1 (q6.flatMap (encI .i64))::xrow QA13 Qc13 88 3 (q7.flatMap enc_api_Pick)::xblk ba0 43 ([.slice QA0 q1.length Qc0,.slice QA2 q2.length Qc2,.slice QA4 q3.length Qc4,.slice QA7 q4.length Qc7,.slice QA9 q5.length Qc9,.slice QA11 q6.length Qc11,.slice QA13 q7.length Qc13,.bool q8,.map (some y44)])::xmap y44 (q9.map (kv Value.string (Value.int .i64)))::xblk ba1_1c0 33 ([.pointer (some ⟨ba1_1c0v,0,none⟩)])::xblk ba1_1c0v 49 ([.map (some ba1_1c0vv_0),.map (some ba1_1c0vv_1),.map (some ba1_1c0vv_2),.bool q10])::xmap ba1_1c0vv_0 (a1_1c0vv_0m.map (kv Value.string (Value.int .i64)))::xmap ba1_1c0vv_1 (q11.map (kv Value.string (Value.int .i64)))::xmap ba1_1c0vv_2 (a1_1c0vv_2m.map (kv Value.string (Value.int .i64)))::xblk ba1_1c1 26 ([.slice Aa1_1c1v_0 a1_1c1v.Next.length ca1_1c1v_0,.slice Aa1_1c1v_1 a1_1c1v.End.length ca1_1c1v_1,.slice Aa1_1c1v_2 a1_1c1v.Value.length ca1_1c1v_2,.int .i64 a1_1c1v.Start])::fs) w'):=by
  refine calls_abs ?_; intro R hR
  unfold weirref14_Graph__put.f at hp0
  refine calls_of_runs (fn:=Try.f33) (c:=cd33 []) Try.func33 (by kernel_rfl) (al:=[.pointer (some ⟨ba0,0,none⟩),.agg #[.string y28,.func (.func 28) #[] #[.pointer (some ⟨ba1_1c0,0,none⟩),.pointer (some ⟨ba1_1c1,0,none⟩)],.func (.func 31) #[] #[.pointer (some ⟨ba1_1c1,0,none⟩),.pointer (some ⟨ba1_1c0,0,none⟩)],.func (.func 32) #[] #[.pointer (some ⟨ba1_1c0,0,none⟩),.pointer (some ⟨ba1_1c1,0,none⟩)]],.int .i64 a2,.string a3,.int .i64 a4,.int .i64 a5,.agg (enc_api_Pick a6).toArray]) rfl (n:=125) rfl ?_
  refine sR 2 [.inRegion (opsOf (cd33 [0])) [0,1,2],.code (cd33 [1])] ?_
  refine r_box (c:=(cd33 [0])) (i:=0) (d:=(some 8)) (ty:=0) (x:=(.tmp 1)) (v:=.agg #[.string y28,.func (.func 28) #[] #[.pointer (some ⟨ba1_1c0,0,none⟩),.pointer (some ⟨ba1_1c1,0,none⟩)],.func (.func 31) #[] #[.pointer (some ⟨ba1_1c1,0,none⟩),.pointer (some ⟨ba1_1c0,0,none⟩)],.func (.func 32) #[] #[.pointer (some ⟨ba1_1c0,0,none⟩),.pointer (some ⟨ba1_1c1,0,none⟩)]]) (t:=32) (cs:=[.string y28,.func (.func 28) #[] #[.pointer (some ⟨ba1_1c0,0,none⟩),.pointer (some ⟨ba1_1c1,0,none⟩)],.func (.func 31) #[] #[.pointer (some ⟨ba1_1c1,0,none⟩),.pointer (some ⟨ba1_1c0,0,none⟩)],.func (.func 32) #[] #[.pointer (some ⟨ba1_1c0,0,none⟩),.pointer (some ⟨ba1_1c1,0,none⟩)]]) hS0 (by kernel_rfl) (by kernel_rfl) (by kernel_rfl) (by kernel_rfl) ?_
  intro b1 w2 hS3
  refine r_box (c:=(cd33 [0])) (i:=1) (d:=(some 13)) (ty:=0) (x:=(.tmp 6)) (v:=.agg (enc_api_Pick a6).toArray) (t:=88) (cs:=enc_api_Pick a6) hS3 (by kernel_rfl) (by kernel_rfl) (by kernel_rfl) (by kernel_rfl) ?_
  intro b5 w6 hS7
  refine sR 7 [iR (cd33 [1,0]) 3 8,.code (cd33 [1,1])] ?_
  refine rL1 41 (.tmp 22) 8 (hS7.blk 2 rfl) ?_
  refine sR 1 [iR (cd33 [1,0]) 5 6,.code (cd33 [1,1])] ?_
  refine rV (.lookup 41 (.tmp 23) (.tmp 24) true) (.tuple #[.int .i64 ((mget a0v_8m a3).getD (0 : Int)),.bool ((mget a0v_8m a3).isSome)]) (fun o ho _ => x_lookup2 (eK:=Value.string) (eV:=(Value.int .i64)) (dk:=.string) (b:=y44) (t:=41) (kt:=9) (et:=3) (m:=a0v_8m) (kk:=a3) (z:=(0 : Int)) (hS7.at 10 rfl) key_str (by kernel_rfl) (by kernel_rfl) (by kernel_rfl) (by kernel_rfl) (by kernel_rfl) ho) ?_
  obtain ⟨v9,hv10,hp11⟩:=bind_some' hp0
  have J16 : ∀ (t12 : Int) (t13 : Bool) (he18 : (t12,t13) = v9) (l17 : List Value) (w14 : World) (hS15 : St w0 Z (xblk ba0 43 ([.slice y29 y20.length y30,.slice y31 y21.length y32,.slice y33 y22.length y34,.slice y36 y23.length y37,.slice y38 y24.length y39,.slice y40 y25.length y41,.slice y42 y26.length y43,.bool y27,.map (some y44)])::xrow y29 y30 9 1 (y20.flatMap encS)::xrow y31 y32 3 1 (y21.flatMap (encI .i64))::xrr y33 y34 93 y35 95 4 enc_weirref14_Move y22::xrow y36 y37 4 1 (y23.flatMap encB)::xrow y38 y39 84 49 (y24.flatMap enc_api_Final)::xrow y40 y41 3 1 (y25.flatMap (encI .i64))::xrow y42 y43 88 3 (y26.flatMap enc_api_Pick)::xmap y44 (a0v_8m.map (kv Value.string (Value.int .i64)))::xblk b1 32 ([.string y28,.func (.func 28) #[] #[.pointer (some ⟨ba1_1c0,0,none⟩),.pointer (some ⟨ba1_1c1,0,none⟩)],.func (.func 31) #[] #[.pointer (some ⟨ba1_1c1,0,none⟩),.pointer (some ⟨ba1_1c0,0,none⟩)],.func (.func 32) #[] #[.pointer (some ⟨ba1_1c0,0,none⟩),.pointer (some ⟨ba1_1c1,0,none⟩)]])::xblk ba1_1c0 33 ([.pointer (some ⟨ba1_1c0v,0,none⟩)])::xblk ba1_1c0v 49 ([.map (some ba1_1c0vv_0),.map (some ba1_1c0vv_1),.map (some ba1_1c0vv_2),.bool a1_1c0vv_3])::xmap ba1_1c0vv_0 (a1_1c0vv_0m.map (kv Value.string (Value.int .i64)))::xmap ba1_1c0vv_1 (a1_1c0vv_1m.map (kv Value.string (Value.int .i64)))::xmap ba1_1c0vv_2 (a1_1c0vv_2m.map (kv Value.string (Value.int .i64)))::xblk ba1_1c1 26 ([.slice Aa1_1c1v_0 a1_1c1v.Next.length ca1_1c1v_0,.slice Aa1_1c1v_1 a1_1c1v.End.length ca1_1c1v_1,.slice Aa1_1c1v_2 a1_1c1v.Value.length ca1_1c1v_2,.int .i64 a1_1c1v.Start])::xblk b5 88 (enc_api_Pick a6)::fs) w14),Runs Try.prog (fx 33) td64 (fill (mk 132 [(0,.pointer (some ⟨ba0,0,none⟩)),(2,.int .i64 a2),(3,.string a3),(4,.int .i64 a4),(5,.int .i64 a5),(8,.pointer (some ⟨b1,0,none⟩)),(13,.pointer (some ⟨b5,0,none⟩)),(15,.int .i64 t12),(16,.bool t13)]) l17) w14 R:=by
   intro t12 t13 he18 l17 w14 hS15
   subst he18
   try dsimp only at hp11
   refine sR 3 td63 ?_
   cases t13
   ·have hp19:=ite_f hp11 rfl
    refine sR 8 [iR (cd33 [1,1,1,0,0]) 3 4,.code (cd33 [1,1,1,0,1]),.code p33_9] ?_
    refine rL1 36 (.tmp 32) 0 (hS15.blk 0 rfl) ?_
    refine sI 3 [.inRegion (opsOf (cd33 [1,1,1,0,0])) [],.code (cd33 [1,1,1,0,1]),.code p33_9] 36 hp19 (fun hp22 => ?_) fun hp45 => ?_
    ·refine sR 7 [.inRegion (opsOf (cd33 [1,1,1,0,1,0,0])) [3],.code (cd33 [1,1,1,0,1,0,1]),.code p33_9] ?_
     refine rS 4 (.tmp 39) (.const (.bool false)) 7 (.bool false) [.bool false] [.slice y29 y20.length y30,.slice y31 y21.length y32,.slice y33 y22.length y34,.slice y36 y23.length y37,.slice y38 y24.length y39,.slice y40 y25.length y41,.slice y42 y26.length y43,.bool false,.map (some y44)] hS15 ?_
     intro w23 hS24
     refine sR 5 [.code (cd33 [1,1,1,0,1,0,1,1]),.code p33_9] ?_
     have hS25:=hS24.pick9
     have hS26:=hS25.drop
     have hS27:=hS26.pick15
     have hS28:=hS27.drop
     have hS29:=hS28.pick14
     have hS30:=hS29.pick14
     have hS31:=hS30.pick14
     have hS32:=hS31.pick14
     have hS33:=hS32.pick14
     have hS34:=hS33.pick14
     have hS35:=hS34.pick14
     have hS36:=hS35.pick7
     have hS37:=hS36.pick14
     have hS38:=hS37.pick14
     have hS39:=hS38.pick14
     have hS40:=hS39.pick14
     have hS41:=hS40.pick14
     have hS42:=hS41.pick14
     have hS43:=hS42.pick14
     refine rR (.int .i64 (-1)) Try.func33 ?_
     cases Option.some.inj hp22
     exact hR _ _ ⟨y29,y30,y31,y32,y33,y34,(y35),y36,y37,y38,y39,y40,y41,y42,y43,rfl,hS43⟩
    refine sR 6 [iR p33_13 1 9,.code p33_14] ?_
    refine rL1 30 (.tmp 41) 3 (hS15.blk 9 rfl) ?_
    refine sR 1 [iR p33_13 3 7,.code p33_14] ?_
    obtain ⟨⟨t46,t47,t48,t49⟩,hr50,hp51⟩:=bind_some' hp45
    try dsimp only at hp51
    have hS55:=hS15.pick15
    have hS56:=hS55.pick15
    have hS57:=hS56.pick15
    have hS58:=hS57.pick15
    have hS59:=hS58.pick15
    have hS60:=hS59.pick15
    refine rC (weirlaw14_Net__machine_3.ok hr50 hS60 ha1_1c1v_0 ha1_1c1v_1 ha1_1c1v_2) ?_
    rintro _ w61 ⟨rfl,hS62⟩
    refine ⟨_,rfl,?_⟩
    refine sR 3 [.inRegion (opsOf p33_13) [7,8,9],.code p33_14] ?_
    refine rA 84 (.agg (enc_api_Final (⟨0,(Vector.replicate 48 0)⟩ : api_Final)).toArray) (enc_api_Final (⟨0,(Vector.replicate 48 0)⟩ : api_Final)) hS62 ?_
    intro b63 w64 hS65
    refine r_store (c:=p33_13) (i:=8) (d:=none) (ty:=0) (t:=84) (x:=(.tmp 17)) (y:=(.tmp 45)) (b:=b63) (o:=0) (e:=84) (cs:=enc_api_Final (⟨0,(Vector.replicate 48 0)⟩ : api_Final)) (v:=.agg (enc_api_Final t46).toArray) (vs:=enc_api_Final t46) (cs':=enc_api_Final t46) hS65 (by kernel_rfl) (by kernel_rfl) (by kernel_rfl) (by kernel_rfl) (by kernel_rfl) (lenK (len_api_Final _) (by kernel_rfl)) (one_api_Final _) (by simp only [len_api_Final,List.length_cons,List.length_nil,List.length_append]; omega) (over_all ((len_api_Final _).trans (len_api_Final _).symm)) ?_
    intro w67 hS68
    refine sR 3 [.code p33_15,.code (cd33 [1,1,1,1,1,1])] ?_
    refine r_drawn3 (C:=St w0 Z (xblk b63 84 (enc_api_Final t46)::xblk ba1_1c0 33 ([.pointer (some ⟨ba1_1c0v,0,none⟩)])::xblk ba1_1c0v 49 ([.map (some ba1_1c0vv_0),.map (some ba1_1c0vv_1),.map (some ba1_1c0vv_2),.bool t48])::xmap ba1_1c0vv_0 (a1_1c0vv_0m.map (kv Value.string (Value.int .i64)))::xmap ba1_1c0vv_1 (t49.map (kv Value.string (Value.int .i64)))::xmap ba1_1c0vv_2 (a1_1c0vv_2m.map (kv Value.string (Value.int .i64)))::xblk ba1_1c1 26 ([.slice Aa1_1c1v_0 a1_1c1v.Next.length ca1_1c1v_0,.slice Aa1_1c1v_1 a1_1c1v.End.length ca1_1c1v_1,.slice Aa1_1c1v_2 a1_1c1v.Value.length ca1_1c1v_2,.int .i64 a1_1c1v.Start])::xblk ba0 43 ([.slice y29 y20.length y30,.slice y31 y21.length y32,.slice y33 y22.length y34,.slice y36 y23.length y37,.slice y38 y24.length y39,.slice y40 y25.length y41,.slice y42 y26.length y43,.bool y27,.map (some y44)])::xrow y29 y30 9 1 (y20.flatMap encS)::xrow y31 y32 3 1 (y21.flatMap (encI .i64))::xrr y33 y34 93 y35 95 4 enc_weirref14_Move y22::xrow y36 y37 4 1 (y23.flatMap encB)::xrow y38 y39 84 49 (y24.flatMap enc_api_Final)::xrow y40 y41 3 1 (y25.flatMap (encI .i64))::xrow y42 y43 88 3 (y26.flatMap enc_api_Pick)::xmap y44 (a0v_8m.map (kv Value.string (Value.int .i64)))::xblk b1 32 ([.string y28,.func (.func 28) #[] #[.pointer (some ⟨ba1_1c0,0,none⟩),.pointer (some ⟨ba1_1c1,0,none⟩)],.func (.func 31) #[] #[.pointer (some ⟨ba1_1c1,0,none⟩),.pointer (some ⟨ba1_1c0,0,none⟩)],.func (.func 32) #[] #[.pointer (some ⟨ba1_1c0,0,none⟩),.pointer (some ⟨ba1_1c1,0,none⟩)]])::xblk b5 88 (enc_api_Pick a6)::fs)) (c:=p33_15) (id:=8) (by kernel_rfl) (by kernel_rfl) 10 (Nat.le_of_ble_eq_true (by kernel_rfl)) (by kernel_rfl) (by kernel_rfl) (by kernel_rfl) (is:=[0,1,2,3,4,5,6,7,8,9]) (rest:=[10]) (by kernel_rfl) (by kernel_rfl) hS68.drew ?_
    refine qR 3 (rg 3 7) ?_
    refine qL1 41 (.tmp 49) 8 (fun w hC => (hC.blk 7 rfl)) ?_
    refine qR 4 [8,9] ?_
    refine qL1 36 (.tmp 54) 0 (fun w hC => (hC.blk 7 rfl)) ?_
    refine qR 1 [] ?_
    refine Qs.nil ?_
    intro w69 hS70
    have hS71:=hS70.pick15
    refine r_mapUpdate (c:=p33_15) (i:=10) (d:=none) (ty:=0) (eK:=Value.string) (eV:=(Value.int .i64)) (dk:=.string) (b:=y44) (t:=41) (kt:=9) (et:=3) (x:=(.tmp 50)) (y:=(.tmp 51)) (z:=(.tmp 56)) (m:=a0v_8m) (kk:=a3) (v:=(y20.length : Int)) hS71 (by kernel_rfl) (by kernel_rfl) key_str (by kernel_rfl) (by kernel_rfl) (by kernel_rfl) (by kernel_rfl) (by kernel_rfl) ?_
    intro w72 hS73
    refine sR 7 [iR p33_17 4 7,.code p33_18] ?_
    refine rL1 36 (.tmp 60) 0 (hS73.blk 8 rfl) ?_
    refine sR 1 [iR p33_17 6 5,.code p33_18] ?_
    refine r_lit (c:=p33_17) (i:=6) (d:=(some 63)) (ty:=36) (t:=36) (e:=9) (sz:=1) (n:=1) (parts:=#[(0,(.tmp 62))]) (vs:=[(0,.string a3)]) (z:=zeroOf Try.prog 9) (cs':=([a3] : List ByteArray).flatMap encS) hS73 (by kernel_rfl) (by kernel_rfl) (by kernel_rfl) (by kernel_rfl) (by kernel_rfl) (by decide) (by decide) (by kernel_rfl) rfl (Parts.cons (c:=[.string a3]) (by kernel_rfl) rfl Parts.nil) rfl ?_
    intro b75 w76 hS77
    have hS78:=hS77.pick10
    obtain ⟨g79,hp80⟩:=ite_some hp51
    refine r_append (c:=p33_17) (i:=7) (d:=(some 64)) (ty:=36) (enc:=encS) (e:=9) (u:=9) (t:=36) (t2:=36) (sz:=1) (cp:=y30) (A:=y29) (bytes:=16) (xs:=y20) (ys:=([a3] : List ByteArray)) (s:=(.tmp 61)) (x:=(.tmp 63)) (xv:=.slice (some ⟨b75,0,none⟩) ([a3] : List ByteArray).length 1) (info:=infoOf Try.prog 9) (z:=zeroOf Try.prog 9) (ycs:=([a3] : List ByteArray).flatMap encS) hS78 (by kernel_rfl) (by kernel_rfl) (by kernel_rfl) (by kernel_rfl) (by kernel_rfl) (.inl (by kernel_rfl)) (by kernel_rfl) (by kernel_rfl) (by kernel_rfl) (by kernel_rfl) (by kernel_rfl) (by omega) len_encS one_encS (src_row (hS78.row 1 rfl) (by omega) len_encS) rfl g79 (by omega) ?_
    intro A81 c82 w83 hS84
    refine sR 2 [.inRegion (opsOf p33_17) [10],.code p33_18] ?_
    have hS86:=hS84.pick10
    refine rS 36 (.tmp 66) (.tmp 64) 0 (.slice A81 (y20 ++ ([a3] : List ByteArray)).length c82) [.slice A81 (y20 ++ ([a3] : List ByteArray)).length c82] [.slice A81 (y20 ++ ([a3] : List ByteArray)).length c82,.slice y31 y21.length y32,.slice y33 y22.length y34,.slice y36 y23.length y37,.slice y38 y24.length y39,.slice y40 y25.length y41,.slice y42 y26.length y43,.bool y27,.map (some y44)] hS86 ?_
    intro w87 hS88
    refine sR 7 [iR p33_19 4 7,.code p33_20] ?_
    refine rL1 37 (.tmp 70) 1 (hS88.blk 0 rfl) ?_
    refine sR 1 [iR p33_19 6 5,.code p33_20] ?_
    refine r_lit (c:=p33_19) (i:=6) (d:=(some 73)) (ty:=37) (t:=37) (e:=3) (sz:=1) (n:=1) (parts:=#[(0,(.tmp 72))]) (vs:=[(0,.int .i64 a4)]) (z:=zeroOf Try.prog 3) (cs':=([a4] : List Int).flatMap (encI .i64)) hS88 (by kernel_rfl) (by kernel_rfl) (by kernel_rfl) (by kernel_rfl) (by kernel_rfl) (by decide) (by decide) (by kernel_rfl) rfl (Parts.cons (c:=[.int .i64 a4]) (by kernel_rfl) rfl Parts.nil) rfl ?_
    intro b90 w91 hS92
    have hS93:=hS92.pick12
    obtain ⟨g94,hp95⟩:=ite_some hp80
    refine r_append (c:=p33_19) (i:=7) (d:=(some 74)) (ty:=37) (enc:=(encI .i64)) (e:=3) (u:=3) (t:=37) (t2:=37) (sz:=1) (cp:=y32) (A:=y31) (bytes:=8) (xs:=y21) (ys:=([a4] : List Int)) (s:=(.tmp 71)) (x:=(.tmp 73)) (xv:=.slice (some ⟨b90,0,none⟩) ([a4] : List Int).length 1) (info:=infoOf Try.prog 3) (z:=zeroOf Try.prog 3) (ycs:=([a4] : List Int).flatMap (encI .i64)) hS93 (by kernel_rfl) (by kernel_rfl) (by kernel_rfl) (by kernel_rfl) (by kernel_rfl) (.inl (by kernel_rfl)) (by kernel_rfl) (by kernel_rfl) (by kernel_rfl) (by kernel_rfl) (by kernel_rfl) (by omega) (len_encI .i64) (one_encI .i64) (src_row (hS93.row 1 rfl) (by omega) (len_encI .i64)) rfl g94 (by omega) ?_
    intro A96 c97 w98 hS99
    refine sR 2 [.inRegion (opsOf p33_19) [10],.code p33_20] ?_
    have hS101:=hS99.pick2
    refine rS 37 (.tmp 76) (.tmp 74) 1 (.slice A96 (y21 ++ ([a4] : List Int)).length c97) [.slice A96 (y21 ++ ([a4] : List Int)).length c97] [.slice A81 (y20 ++ ([a3] : List ByteArray)).length c82,.slice A96 (y21 ++ ([a4] : List Int)).length c97,.slice y33 y22.length y34,.slice y36 y23.length y37,.slice y38 y24.length y39,.slice y40 y25.length y41,.slice y42 y26.length y43,.bool y27,.map (some y44)] hS101 ?_
    intro w102 hS103
    refine sR 7 [iR p33_21 4 6,.code p33_22] ?_
    refine rL1 38 (.tmp 80) 2 (hS103.blk 0 rfl) ?_
    refine r_lit (c:=p33_21) (i:=5) (d:=(some 82)) (ty:=38) (t:=38) (e:=93) (sz:=1) (n:=1) (parts:=#[(0,(.const (.slice none 0 0)))]) (vs:=[(0,.slice none 0 0)]) (z:=zeroOf Try.prog 93) (cs':=([(none,0,0)] : List Hd3).flatMap encH) hS103 (by kernel_rfl) (by kernel_rfl) (by kernel_rfl) (by kernel_rfl) (by kernel_rfl) (by decide) (by decide) (by kernel_rfl) rfl (Parts.cons (c:=[.slice none 0 0]) (by kernel_rfl) rfl Parts.nil) rfl ?_
    intro b105 w106 hS107
    have hS110:=hS107.nilrow none 95 4
    obtain ⟨g111,hp112⟩:=ite_some hp95
    have hS113:=hS110.pick15
    refine r_appendRR (c:=p33_21) (i:=6) (d:=(some 83)) (ty:=38) (u:=93) (t:=38) (t2:=38) (s:=(.tmp 81)) (x:=(.tmp 82)) (xv:=.slice (some ⟨b105,0,none⟩) 1 1) (info:=infoOf Try.prog 93) (z:=zeroOf Try.prog 93) (bytes:=24) (A:=y33) (cp:=y34) (Al:=none) (cl:=0) (ts:=y22) (tl:=([] : List weirref14_Move)) hS113 (by kernel_rfl) (by kernel_rfl) (by kernel_rfl) (by kernel_rfl) (by kernel_rfl) (.inl (by kernel_rfl)) (by kernel_rfl) (by kernel_rfl) (by kernel_rfl) (by kernel_rfl) (by kernel_rfl) (src_hd (hS113.row 2 rfl)) g111 (by omega) ?_
    intro A114 c115 w116 hS117
    refine sR 2 [.inRegion (opsOf p33_21) [9],.code p33_22] ?_
    have hS119:=hS117.pick2
    refine rS 38 (.tmp 85) (.tmp 83) 2 (.slice A114 (y22 ++ [([] : List weirref14_Move)]).length c115) [.slice A114 (y22 ++ [([] : List weirref14_Move)]).length c115] [.slice A81 (y20 ++ ([a3] : List ByteArray)).length c82,.slice A96 (y21 ++ ([a4] : List Int)).length c97,.slice A114 (y22 ++ [([] : List weirref14_Move)]).length c115,.slice y36 y23.length y37,.slice y38 y24.length y39,.slice y40 y25.length y41,.slice y42 y26.length y43,.bool y27,.map (some y44)] hS119 ?_
    intro w120 hS121
    refine sR 7 [iR p33_23 4 7,.code p33_24] ?_
    refine rL1 23 (.tmp 89) 3 (hS121.blk 0 rfl) ?_
    refine sR 1 [iR p33_23 6 5,.code p33_24] ?_
    refine r_lit (c:=p33_23) (i:=6) (d:=(some 92)) (ty:=23) (t:=23) (e:=4) (sz:=1) (n:=1) (parts:=#[(0,(.tmp 91))]) (vs:=[(0,.bool t47)]) (z:=zeroOf Try.prog 4) (cs':=([t47] : List Bool).flatMap encB) hS121 (by kernel_rfl) (by kernel_rfl) (by kernel_rfl) (by kernel_rfl) (by kernel_rfl) (by decide) (by decide) (by kernel_rfl) rfl (Parts.cons (c:=[.bool t47]) (by kernel_rfl) rfl Parts.nil) rfl ?_
    intro b123 w124 hS125
    have hS126:=hS125.pick16
    obtain ⟨g127,hp128⟩:=ite_some hp112
    refine r_append (c:=p33_23) (i:=7) (d:=(some 93)) (ty:=23) (enc:=encB) (e:=4) (u:=4) (t:=23) (t2:=23) (sz:=1) (cp:=y37) (A:=y36) (bytes:=1) (xs:=y23) (ys:=([t47] : List Bool)) (s:=(.tmp 90)) (x:=(.tmp 92)) (xv:=.slice (some ⟨b123,0,none⟩) ([t47] : List Bool).length 1) (info:=infoOf Try.prog 4) (z:=zeroOf Try.prog 4) (ycs:=([t47] : List Bool).flatMap encB) hS126 (by kernel_rfl) (by kernel_rfl) (by kernel_rfl) (by kernel_rfl) (by kernel_rfl) (.inl (by kernel_rfl)) (by kernel_rfl) (by kernel_rfl) (by kernel_rfl) (by kernel_rfl) (by kernel_rfl) (by omega) len_encB one_encB (src_row (hS126.row 1 rfl) (by omega) len_encB) rfl g127 (by omega) ?_
    intro A129 c130 w131 hS132
    refine sR 2 [.inRegion (opsOf p33_23) [10],.code p33_24] ?_
    have hS134:=hS132.pick2
    refine rS 23 (.tmp 95) (.tmp 93) 3 (.slice A129 (y23 ++ ([t47] : List Bool)).length c130) [.slice A129 (y23 ++ ([t47] : List Bool)).length c130] [.slice A81 (y20 ++ ([a3] : List ByteArray)).length c82,.slice A96 (y21 ++ ([a4] : List Int)).length c97,.slice A114 (y22 ++ [([] : List weirref14_Move)]).length c115,.slice A129 (y23 ++ ([t47] : List Bool)).length c130,.slice y38 y24.length y39,.slice y40 y25.length y41,.slice y42 y26.length y43,.bool y27,.map (some y44)] hS134 ?_
    intro w135 hS136
    refine sR 2 [.code p33_25,.code (cd33 [1,1,1,1,1,1,1,1,1,1,1])] ?_
    have hS137:=hS136.pick17
    have hS138:=hS137.pick11
    have hS139:=hS138.pick2
    generalize hg141 : (xrow A129 c130 4 1 ((y23 ++ ([t47] : List Bool)).flatMap encB)::xrow (some ⟨b123,0,none⟩) 1 4 1 (([t47] : List Bool).flatMap encB)::xrr A114 c115 93 (upd y35 y22.length (none,0)) 95 4 enc_weirref14_Move (y22 ++ [([] : List weirref14_Move)])::xrow (some ⟨b105,0,none⟩) 1 93 1 (([(none,0,0)] : List Hd3).flatMap encH)::xrow A96 c97 3 1 ((y21 ++ ([a4] : List Int)).flatMap (encI .i64))::xrow (some ⟨b90,0,none⟩) 1 3 1 (([a4] : List Int).flatMap (encI .i64))::xrow A81 c82 9 1 ((y20 ++ ([a3] : List ByteArray)).flatMap encS)::xrow (some ⟨b75,0,none⟩) 1 9 1 (([a3] : List ByteArray).flatMap encS)::xmap y44 ((mput a0v_8m a3 (y20.length : Int)).map (kv Value.string (Value.int .i64)))::xblk ba1_1c0 33 ([.pointer (some ⟨ba1_1c0v,0,none⟩)])::xblk ba1_1c0v 49 ([.map (some ba1_1c0vv_0),.map (some ba1_1c0vv_1),.map (some ba1_1c0vv_2),.bool t48])::xmap ba1_1c0vv_0 (a1_1c0vv_0m.map (kv Value.string (Value.int .i64)))::xmap ba1_1c0vv_1 (t49.map (kv Value.string (Value.int .i64)))::xmap ba1_1c0vv_2 (a1_1c0vv_2m.map (kv Value.string (Value.int .i64)))::xblk ba1_1c1 26 ([.slice Aa1_1c1v_0 a1_1c1v.Next.length ca1_1c1v_0,.slice Aa1_1c1v_1 a1_1c1v.End.length ca1_1c1v_1,.slice Aa1_1c1v_2 a1_1c1v.Value.length ca1_1c1v_2,.int .i64 a1_1c1v.Start])::xrow y40 y41 3 1 (y25.flatMap (encI .i64))::xrow y42 y43 88 3 (y26.flatMap enc_api_Pick)::xblk b1 32 ([.string y28,.func (.func 28) #[] #[.pointer (some ⟨ba1_1c0,0,none⟩),.pointer (some ⟨ba1_1c1,0,none⟩)],.func (.func 31) #[] #[.pointer (some ⟨ba1_1c1,0,none⟩),.pointer (some ⟨ba1_1c0,0,none⟩)],.func (.func 32) #[] #[.pointer (some ⟨ba1_1c0,0,none⟩),.pointer (some ⟨ba1_1c1,0,none⟩)]])::xblk b5 88 (enc_api_Pick a6)::fs) = gs140 at hS139
    obtain ⟨g144,hp145⟩:=ite_some hp128
    refine r_drawnG (S:=Option (Nat × Option ((Option Addr × Nat) × Option Unit))) (rank:=(fun st => match st with | none => 0 | some (b142,none) => 1 | some (b142,some (x149,none)) => 2 | some (b142,some (x149,some x150)) => 3)) (C:=(fun st w' => match st with | none => St w0 Z (xblk ba0 43 ([.slice A81 (y20 ++ ([a3] : List ByteArray)).length c82,.slice A96 (y21 ++ ([a4] : List Int)).length c97,.slice A114 (y22 ++ [([] : List weirref14_Move)]).length c115,.slice A129 (y23 ++ ([t47] : List Bool)).length c130,.slice y38 y24.length y39,.slice y40 y25.length y41,.slice y42 y26.length y43,.bool y27,.map (some y44)])::xblk b63 84 (enc_api_Final t46)::xrow y38 y39 84 49 (y24.flatMap enc_api_Final)::gs140) w' | some (b142,none) => St w0 Z (xrow (some ⟨b142,0,none⟩) 1 84 49 (([t46] : List api_Final).flatMap enc_api_Final)::xblk ba0 43 ([.slice A81 (y20 ++ ([a3] : List ByteArray)).length c82,.slice A96 (y21 ++ ([a4] : List Int)).length c97,.slice A114 (y22 ++ [([] : List weirref14_Move)]).length c115,.slice A129 (y23 ++ ([t47] : List Bool)).length c130,.slice y38 y24.length y39,.slice y40 y25.length y41,.slice y42 y26.length y43,.bool y27,.map (some y44)])::xblk b63 84 (enc_api_Final t46)::xrow y38 y39 84 49 (y24.flatMap enc_api_Final)::gs140) w' | some (b142,some (x149,none)) => St w0 Z (xrow x149.1 x149.2 84 49 ((y24 ++ ([t46] : List api_Final)).flatMap enc_api_Final)::xrow (some ⟨b142,0,none⟩) 1 84 49 (([t46] : List api_Final).flatMap enc_api_Final)::xblk ba0 43 ([.slice A81 (y20 ++ ([a3] : List ByteArray)).length c82,.slice A96 (y21 ++ ([a4] : List Int)).length c97,.slice A114 (y22 ++ [([] : List weirref14_Move)]).length c115,.slice A129 (y23 ++ ([t47] : List Bool)).length c130,.slice y38 y24.length y39,.slice y40 y25.length y41,.slice y42 y26.length y43,.bool y27,.map (some y44)])::xblk b63 84 (enc_api_Final t46)::gs140) w' | some (b142,some (x149,some x150)) => St w0 Z (xblk ba0 43 ([.slice A81 (y20 ++ ([a3] : List ByteArray)).length c82,.slice A96 (y21 ++ ([a4] : List Int)).length c97,.slice A114 (y22 ++ [([] : List weirref14_Move)]).length c115,.slice A129 (y23 ++ ([t47] : List Bool)).length c130,.slice x149.1 (y24 ++ ([t46] : List api_Final)).length x149.2,.slice y40 y25.length y41,.slice y42 y26.length y43,.bool y27,.map (some y44)])::xrow x149.1 x149.2 84 49 ((y24 ++ ([t46] : List api_Final)).flatMap enc_api_Final)::xrow (some ⟨b142,0,none⟩) 1 84 49 (([t46] : List api_Final).flatMap enc_api_Final)::xblk b63 84 (enc_api_Final t46)::gs140) w')) (v:=(fun st => match st with | none => [.pointer (some ⟨ba0,0,none⟩),.pointer (some ⟨ba0,0,none⟩),.pointer (some ⟨ba0,0,none⟩),.pointer (some ⟨ba0,4,none⟩),.slice y38 y24.length y39,.agg (enc_api_Final t46).toArray,undef,undef,undef,undef,undef] | some (b142,none) => [.pointer (some ⟨ba0,0,none⟩),.pointer (some ⟨ba0,0,none⟩),.pointer (some ⟨ba0,0,none⟩),.pointer (some ⟨ba0,4,none⟩),.slice y38 y24.length y39,.agg (enc_api_Final t46).toArray,.slice (some ⟨b142,0,none⟩) ([t46] : List api_Final).length 1,undef,undef,undef,undef] | some (b142,some (x149,none)) => [.pointer (some ⟨ba0,0,none⟩),.pointer (some ⟨ba0,0,none⟩),.pointer (some ⟨ba0,0,none⟩),.pointer (some ⟨ba0,4,none⟩),.slice y38 y24.length y39,.agg (enc_api_Final t46).toArray,.slice (some ⟨b142,0,none⟩) ([t46] : List api_Final).length 1,.slice x149.1 (y24 ++ ([t46] : List api_Final)).length x149.2,.pointer (some ⟨ba0,0,none⟩),.pointer (some ⟨ba0,4,none⟩),undef] | some (b142,some (x149,some x150)) => [.pointer (some ⟨ba0,0,none⟩),.pointer (some ⟨ba0,0,none⟩),.pointer (some ⟨ba0,0,none⟩),.pointer (some ⟨ba0,4,none⟩),.slice y38 y24.length y39,.agg (enc_api_Final t46).toArray,.slice (some ⟨b142,0,none⟩) ([t46] : List api_Final).length 1,.slice x149.1 (y24 ++ ([t46] : List api_Final)).length x149.2,.pointer (some ⟨ba0,0,none⟩),.pointer (some ⟨ba0,4,none⟩),undef])) (c:=p33_25) (id:=13) none 10 11 [6,7,10] [0,0,0,0,0,0,0,1,2,2,2] [2,2,2,2,1,0,1,2,3,2,3] [] (by kernel_rfl) (by kernel_rfl) (by kernel_rfl) (by kernel_rfl) (by kernel_rfl) (by kernel_rfl) (by kernel_rfl) (by kernel_rfl) (by kernel_rfl) (by kernel_rfl) rfl hS139.drew ?_ ?_ ?_ ?_
    ·intro st w hC
     rcases st with _ | ⟨b142,_ | ⟨x149,_ | x150⟩⟩
     ·exact nbl rfl
     ·exact nbl rfl
     ·exact nbl rfl
     ·exact nbl rfl
    ·intro i hi he st w hC hr hu
     match i,hi,he with
     | 0,_,_ =>
      rcases st with _ | ⟨b142,_ | ⟨x149,_ | x150⟩⟩
      ·dsimp only at hC
       exact dP (.pointer (some ⟨ba0,0,none⟩)) hC
      ·dsimp only at hC
       exact dP (.pointer (some ⟨ba0,0,none⟩)) hC
      ·dsimp only at hC
       exact dP (.pointer (some ⟨ba0,0,none⟩)) hC
      ·exact absurd hu (nle rfl)
     | 1,_,_ =>
      rcases st with _ | ⟨b142,_ | ⟨x149,_ | x150⟩⟩
      ·dsimp only at hC
       exact dP (.pointer (some ⟨ba0,0,none⟩)) hC
      ·dsimp only at hC
       exact dP (.pointer (some ⟨ba0,0,none⟩)) hC
      ·dsimp only at hC
       exact dP (.pointer (some ⟨ba0,0,none⟩)) hC
      ·exact absurd hu (nle rfl)
     | 2,_,_ =>
      rcases st with _ | ⟨b142,_ | ⟨x149,_ | x150⟩⟩
      ·dsimp only at hC
       exact dP (.pointer (some ⟨ba0,0,none⟩)) hC
      ·dsimp only at hC
       exact dP (.pointer (some ⟨ba0,0,none⟩)) hC
      ·dsimp only at hC
       exact dP (.pointer (some ⟨ba0,0,none⟩)) hC
      ·exact absurd hu (nle rfl)
     | 3,_,_ =>
      rcases st with _ | ⟨b142,_ | ⟨x149,_ | x150⟩⟩
      ·dsimp only at hC
       exact dP (.pointer (some ⟨ba0,4,none⟩)) hC
      ·dsimp only at hC
       exact dP (.pointer (some ⟨ba0,4,none⟩)) hC
      ·dsimp only at hC
       exact dP (.pointer (some ⟨ba0,4,none⟩)) hC
      ·exact absurd hu (nle rfl)
     | 4,_,_ =>
      rcases st with _ | ⟨b142,_ | ⟨x149,_ | x150⟩⟩
      ·dsimp only at hC
       exact does_run (x_load (t:=39) (x:=(.tmp 99)) (p:=⟨ba0,4,none⟩) (v:=.slice y38 y24.length y39) (by kernel_rfl) (loads_at 4 (hC.blk 0 rfl) (by kernel_rfl) (by kernel_rfl)) (by kernel_rfl)) rfl hC
      ·dsimp only at hC
       exact does_run (x_load (t:=39) (x:=(.tmp 99)) (p:=⟨ba0,4,none⟩) (v:=.slice y38 y24.length y39) (by kernel_rfl) (loads_at 4 (hC.blk 1 rfl) (by kernel_rfl) (by kernel_rfl)) (by kernel_rfl)) rfl hC
      ·exact absurd hu (nle rfl)
      ·exact absurd hu (nle rfl)
     | 5,_,_ =>
      rcases st with _ | ⟨b142,_ | ⟨x149,_ | x150⟩⟩
      ·dsimp only at hC
       exact does_run (x_load (t:=84) (x:=(.tmp 17)) (p:=⟨b63,0,none⟩) (v:=.agg (enc_api_Final t46).toArray) (by kernel_rfl) (loads_agg (hC.blk 1 rfl) (by kernel_rfl) (lenK (len_api_Final _) (by kernel_rfl))) (by kernel_rfl)) rfl hC
      ·exact absurd hu (nle rfl)
      ·exact absurd hu (nle rfl)
      ·exact absurd hu (nle rfl)
     | 6,_,he => exact absurd he (by decide)
     | 7,_,he => exact absurd he (by decide)
     | 8,_,_ =>
      rcases st with _ | ⟨b142,_ | ⟨x149,_ | x150⟩⟩
      ·exact absurd hr (nle rfl)
      ·exact absurd hr (nle rfl)
      ·dsimp only at hC
       exact dP (.pointer (some ⟨ba0,0,none⟩)) hC
      ·dsimp only at hC
       exact dP (.pointer (some ⟨ba0,0,none⟩)) hC
     | 9,_,_ =>
      rcases st with _ | ⟨b142,_ | ⟨x149,_ | x150⟩⟩
      ·exact absurd hr (nle rfl)
      ·exact absurd hr (nle rfl)
      ·dsimp only at hC
       exact dP (.pointer (some ⟨ba0,4,none⟩)) hC
      ·exact absurd hu (nle rfl)
     | 10,_,he => exact absurd he (by decide)
     | i + 11,hi,_ => exact absurd hi (by omega)
    ·intro k hk st w hC hr
     match k,hk with
     | 0,_ =>
      rcases st with _ | ⟨b142,_ | ⟨x149,_ | x150⟩⟩
      ·dsimp only at hC
       refine does_lit (t:=39) (e:=84) (sz:=49) (n:=1) (parts:=#[(0,(.tmp 101))]) (vs:=[(0,.agg (enc_api_Final t46).toArray)]) (z:=zeroOf Try.prog 84) (cs':=([t46] : List api_Final).flatMap enc_api_Final) hC (by kernel_rfl) (by kernel_rfl) (by kernel_rfl) (by kernel_rfl) (by decide) (by decide) (by kernel_rfl) rfl (Parts.cons (c:=enc_api_Final t46) (by kernel_rfl) (len_api_Final _) Parts.nil) rfl ?_
       intro b142 w2 h2
       refine ⟨some (b142,none),rfl,?_,.inr rfl,h2⟩
       intro j hj
       match j,hj with
       | 0,_ => exact rfl
       | 1,_ => exact rfl
       | 2,_ => exact rfl
       | 3,_ => exact rfl
       | 4,_ => exact rfl
       | 5,_ => exact rfl
       | 6,hj => exact absurd hj (by decide)
       | 7,hj => exact absurd hj (by decide)
       | 8,hj => exact absurd hj (by decide)
       | 9,hj => exact absurd hj (by decide)
       | 10,hj => exact absurd hj (by decide)
       | j + 11,_ => exact rfl
      ·exact absurd hr (Nat.ne_of_beq_eq_false rfl)
      ·exact absurd hr (Nat.ne_of_beq_eq_false rfl)
      ·exact absurd hr (Nat.ne_of_beq_eq_false rfl)
     | 1,_ =>
      rcases st with _ | ⟨b142,_ | ⟨x149,_ | x150⟩⟩
      ·exact absurd hr (Nat.ne_of_beq_eq_false rfl)
      ·dsimp only at hC
       have hC:=hC.pick3
       refine does_append (enc:=enc_api_Final) (e:=84) (u:=84) (t:=39) (t2:=39) (sz:=49) (cp:=y39) (A:=y38) (bytes:=392) (xs:=y24) (ys:=([t46] : List api_Final)) (s:=(.tmp 100)) (x:=(.tmp 102)) (xv:=.slice (some ⟨b142,0,none⟩) ([t46] : List api_Final).length 1) (info:=infoOf Try.prog 84) (z:=zeroOf Try.prog 84) (ycs:=([t46] : List api_Final).flatMap enc_api_Final) hC (by kernel_rfl) (by kernel_rfl) (by kernel_rfl) (by kernel_rfl) (.inl (by kernel_rfl)) (by kernel_rfl) (by kernel_rfl) (by kernel_rfl) (by kernel_rfl) (by kernel_rfl) (by omega) len_api_Final one_api_Final (src_row (hC.row 1 rfl) (by omega) len_api_Final) rfl g144 (by omega) ?_
       intro A146 c147 w2 h2
       refine ⟨some (b142,some ((A146,c147),none)),rfl,?_,.inr rfl,h2⟩
       intro j hj
       match j,hj with
       | 0,_ => exact rfl
       | 1,_ => exact rfl
       | 2,_ => exact rfl
       | 3,_ => exact rfl
       | 4,_ => exact rfl
       | 5,_ => exact rfl
       | 6,_ => exact rfl
       | 7,hj => exact absurd hj (by decide)
       | 8,hj => exact absurd hj (by decide)
       | 9,hj => exact absurd hj (by decide)
       | 10,hj => exact absurd hj (by decide)
       | j + 11,_ => exact rfl
      ·exact absurd hr (Nat.ne_of_beq_eq_false rfl)
      ·exact absurd hr (Nat.ne_of_beq_eq_false rfl)
     | 2,_ =>
      rcases st with _ | ⟨b142,_ | ⟨x149,_ | x150⟩⟩
      ·exact absurd hr (Nat.ne_of_beq_eq_false rfl)
      ·exact absurd hr (Nat.ne_of_beq_eq_false rfl)
      ·dsimp only at hC
       have hC:=hC.pick2
       refine dS 39 (.tmp 105) (.tmp 103) 4 (.slice x149.1 (y24 ++ ([t46] : List api_Final)).length x149.2) [.slice x149.1 (y24 ++ ([t46] : List api_Final)).length x149.2] [.slice A81 (y20 ++ ([a3] : List ByteArray)).length c82,.slice A96 (y21 ++ ([a4] : List Int)).length c97,.slice A114 (y22 ++ [([] : List weirref14_Move)]).length c115,.slice A129 (y23 ++ ([t47] : List Bool)).length c130,.slice x149.1 (y24 ++ ([t46] : List api_Final)).length x149.2,.slice y40 y25.length y41,.slice y42 y26.length y43,.bool y27,.map (some y44)] hC ?_
       intro w2 h2
       refine ⟨some (b142,some (x149,some ())),rfl,?_,.inl rfl,h2⟩
       intro j hj
       match j,hj with
       | 0,_ => exact rfl
       | 1,_ => exact rfl
       | 2,_ => exact rfl
       | 3,_ => exact rfl
       | 4,_ => exact rfl
       | 5,_ => exact rfl
       | 6,_ => exact rfl
       | 7,_ => exact rfl
       | 8,_ => exact rfl
       | 9,_ => exact rfl
       | 10,hj => exact absurd hj (by decide)
       | j + 11,_ => exact rfl
      ·exact absurd hr (Nat.ne_of_beq_eq_false rfl)
     | k + 3,hk => exact absurd hk (by simp)
    intro st154 w151 hS152 hr153
    rcases st154 with _ | ⟨b142,_ | ⟨x149,_ | x150⟩⟩
    ·exact absurd hr153 (nle rfl)
    ·exact absurd hr153 (nle rfl)
    ·exact absurd hr153 (nle rfl)
    replace hS152 : St w0 Z (xblk ba0 43 ([.slice A81 (y20 ++ ([a3] : List ByteArray)).length c82,.slice A96 (y21 ++ ([a4] : List Int)).length c97,.slice A114 (y22 ++ [([] : List weirref14_Move)]).length c115,.slice A129 (y23 ++ ([t47] : List Bool)).length c130,.slice x149.1 (y24 ++ ([t46] : List api_Final)).length x149.2,.slice y40 y25.length y41,.slice y42 y26.length y43,.bool y27,.map (some y44)])::xrow x149.1 x149.2 84 49 ((y24 ++ ([t46] : List api_Final)).flatMap enc_api_Final)::xrow (some ⟨b142,0,none⟩) 1 84 49 (([t46] : List api_Final).flatMap enc_api_Final)::xblk b63 84 (enc_api_Final t46)::gs140) w151:=hS152
    subst hg141
    refine sR 6 [iR p33_27 4 7,.code p33_28] ?_
    refine rL1 37 (.tmp 109) 5 (hS152.blk 0 rfl) ?_
    refine sR 1 [iR p33_27 6 5,.code p33_28] ?_
    refine r_lit (c:=p33_27) (i:=6) (d:=(some 112)) (ty:=37) (t:=37) (e:=3) (sz:=1) (n:=1) (parts:=#[(0,(.tmp 111))]) (vs:=[(0,.int .i64 a5)]) (z:=zeroOf Try.prog 3) (cs':=([a5] : List Int).flatMap (encI .i64)) hS152 (by kernel_rfl) (by kernel_rfl) (by kernel_rfl) (by kernel_rfl) (by kernel_rfl) (by decide) (by decide) (by kernel_rfl) rfl (Parts.cons (c:=[.int .i64 a5]) (by kernel_rfl) rfl Parts.nil) rfl ?_
    intro b156 w157 hS158
    have hS159:=hS158.pick20
    obtain ⟨g160,hp161⟩:=ite_some hp145
    refine r_append (c:=p33_27) (i:=7) (d:=(some 113)) (ty:=37) (enc:=(encI .i64)) (e:=3) (u:=3) (t:=37) (t2:=37) (sz:=1) (cp:=y41) (A:=y40) (bytes:=8) (xs:=y25) (ys:=([a5] : List Int)) (s:=(.tmp 110)) (x:=(.tmp 112)) (xv:=.slice (some ⟨b156,0,none⟩) ([a5] : List Int).length 1) (info:=infoOf Try.prog 3) (z:=zeroOf Try.prog 3) (ycs:=([a5] : List Int).flatMap (encI .i64)) hS159 (by kernel_rfl) (by kernel_rfl) (by kernel_rfl) (by kernel_rfl) (by kernel_rfl) (.inl (by kernel_rfl)) (by kernel_rfl) (by kernel_rfl) (by kernel_rfl) (by kernel_rfl) (by kernel_rfl) (by omega) (len_encI .i64) (one_encI .i64) (src_row (hS159.row 1 rfl) (by omega) (len_encI .i64)) rfl g160 (by omega) ?_
    intro A162 c163 w164 hS165
    refine sR 2 [.inRegion (opsOf p33_27) [10],.code p33_28] ?_
    have hS167:=hS165.pick2
    refine rS 37 (.tmp 115) (.tmp 113) 5 (.slice A162 (y25 ++ ([a5] : List Int)).length c163) [.slice A162 (y25 ++ ([a5] : List Int)).length c163] [.slice A81 (y20 ++ ([a3] : List ByteArray)).length c82,.slice A96 (y21 ++ ([a4] : List Int)).length c97,.slice A114 (y22 ++ [([] : List weirref14_Move)]).length c115,.slice A129 (y23 ++ ([t47] : List Bool)).length c130,.slice x149.1 (y24 ++ ([t46] : List api_Final)).length x149.2,.slice A162 (y25 ++ ([a5] : List Int)).length c163,.slice y42 y26.length y43,.bool y27,.map (some y44)] hS167 ?_
    intro w168 hS169
    refine sR 2 [.code p33_29,.code (cd33 [1,1,1,1,1,1,1,1,1,1,1,1,1])] ?_
    have hS170:=hS169.pick23
    have hS171:=hS170.pick22
    have hS172:=hS171.pick2
    generalize hg174 : (xrow A162 c163 3 1 ((y25 ++ ([a5] : List Int)).flatMap (encI .i64))::xrow (some ⟨b156,0,none⟩) 1 3 1 (([a5] : List Int).flatMap (encI .i64))::xrow x149.1 x149.2 84 49 ((y24 ++ ([t46] : List api_Final)).flatMap enc_api_Final)::xrow (some ⟨b142,0,none⟩) 1 84 49 (([t46] : List api_Final).flatMap enc_api_Final)::xblk b63 84 (enc_api_Final t46)::xrow A129 c130 4 1 ((y23 ++ ([t47] : List Bool)).flatMap encB)::xrow (some ⟨b123,0,none⟩) 1 4 1 (([t47] : List Bool).flatMap encB)::xrr A114 c115 93 (upd y35 y22.length (none,0)) 95 4 enc_weirref14_Move (y22 ++ [([] : List weirref14_Move)])::xrow (some ⟨b105,0,none⟩) 1 93 1 (([(none,0,0)] : List Hd3).flatMap encH)::xrow A96 c97 3 1 ((y21 ++ ([a4] : List Int)).flatMap (encI .i64))::xrow (some ⟨b90,0,none⟩) 1 3 1 (([a4] : List Int).flatMap (encI .i64))::xrow A81 c82 9 1 ((y20 ++ ([a3] : List ByteArray)).flatMap encS)::xrow (some ⟨b75,0,none⟩) 1 9 1 (([a3] : List ByteArray).flatMap encS)::xmap y44 ((mput a0v_8m a3 (y20.length : Int)).map (kv Value.string (Value.int .i64)))::xblk ba1_1c0 33 ([.pointer (some ⟨ba1_1c0v,0,none⟩)])::xblk ba1_1c0v 49 ([.map (some ba1_1c0vv_0),.map (some ba1_1c0vv_1),.map (some ba1_1c0vv_2),.bool t48])::xmap ba1_1c0vv_0 (a1_1c0vv_0m.map (kv Value.string (Value.int .i64)))::xmap ba1_1c0vv_1 (t49.map (kv Value.string (Value.int .i64)))::xmap ba1_1c0vv_2 (a1_1c0vv_2m.map (kv Value.string (Value.int .i64)))::xblk ba1_1c1 26 ([.slice Aa1_1c1v_0 a1_1c1v.Next.length ca1_1c1v_0,.slice Aa1_1c1v_1 a1_1c1v.End.length ca1_1c1v_1,.slice Aa1_1c1v_2 a1_1c1v.Value.length ca1_1c1v_2,.int .i64 a1_1c1v.Start])::xblk b1 32 ([.string y28,.func (.func 28) #[] #[.pointer (some ⟨ba1_1c0,0,none⟩),.pointer (some ⟨ba1_1c1,0,none⟩)],.func (.func 31) #[] #[.pointer (some ⟨ba1_1c1,0,none⟩),.pointer (some ⟨ba1_1c0,0,none⟩)],.func (.func 32) #[] #[.pointer (some ⟨ba1_1c0,0,none⟩),.pointer (some ⟨ba1_1c1,0,none⟩)]])::fs) = gs173 at hS172
    obtain ⟨g177,hp178⟩:=ite_some hp161
    refine r_drawnG (S:=Option (Nat × Option ((Option Addr × Nat) × Option Unit))) (rank:=(fun st => match st with | none => 0 | some (b175,none) => 1 | some (b175,some (x182,none)) => 2 | some (b175,some (x182,some x183)) => 3)) (C:=(fun st w' => match st with | none => St w0 Z (xblk ba0 43 ([.slice A81 (y20 ++ ([a3] : List ByteArray)).length c82,.slice A96 (y21 ++ ([a4] : List Int)).length c97,.slice A114 (y22 ++ [([] : List weirref14_Move)]).length c115,.slice A129 (y23 ++ ([t47] : List Bool)).length c130,.slice x149.1 (y24 ++ ([t46] : List api_Final)).length x149.2,.slice A162 (y25 ++ ([a5] : List Int)).length c163,.slice y42 y26.length y43,.bool y27,.map (some y44)])::xrow y42 y43 88 3 (y26.flatMap enc_api_Pick)::xblk b5 88 (enc_api_Pick a6)::gs173) w' | some (b175,none) => St w0 Z (xrow (some ⟨b175,0,none⟩) 1 88 3 (([a6] : List api_Pick).flatMap enc_api_Pick)::xblk ba0 43 ([.slice A81 (y20 ++ ([a3] : List ByteArray)).length c82,.slice A96 (y21 ++ ([a4] : List Int)).length c97,.slice A114 (y22 ++ [([] : List weirref14_Move)]).length c115,.slice A129 (y23 ++ ([t47] : List Bool)).length c130,.slice x149.1 (y24 ++ ([t46] : List api_Final)).length x149.2,.slice A162 (y25 ++ ([a5] : List Int)).length c163,.slice y42 y26.length y43,.bool y27,.map (some y44)])::xrow y42 y43 88 3 (y26.flatMap enc_api_Pick)::xblk b5 88 (enc_api_Pick a6)::gs173) w' | some (b175,some (x182,none)) => St w0 Z (xrow x182.1 x182.2 88 3 ((y26 ++ ([a6] : List api_Pick)).flatMap enc_api_Pick)::xrow (some ⟨b175,0,none⟩) 1 88 3 (([a6] : List api_Pick).flatMap enc_api_Pick)::xblk ba0 43 ([.slice A81 (y20 ++ ([a3] : List ByteArray)).length c82,.slice A96 (y21 ++ ([a4] : List Int)).length c97,.slice A114 (y22 ++ [([] : List weirref14_Move)]).length c115,.slice A129 (y23 ++ ([t47] : List Bool)).length c130,.slice x149.1 (y24 ++ ([t46] : List api_Final)).length x149.2,.slice A162 (y25 ++ ([a5] : List Int)).length c163,.slice y42 y26.length y43,.bool y27,.map (some y44)])::xblk b5 88 (enc_api_Pick a6)::gs173) w' | some (b175,some (x182,some x183)) => St w0 Z (xblk ba0 43 ([.slice A81 (y20 ++ ([a3] : List ByteArray)).length c82,.slice A96 (y21 ++ ([a4] : List Int)).length c97,.slice A114 (y22 ++ [([] : List weirref14_Move)]).length c115,.slice A129 (y23 ++ ([t47] : List Bool)).length c130,.slice x149.1 (y24 ++ ([t46] : List api_Final)).length x149.2,.slice A162 (y25 ++ ([a5] : List Int)).length c163,.slice x182.1 (y26 ++ ([a6] : List api_Pick)).length x182.2,.bool y27,.map (some y44)])::xrow x182.1 x182.2 88 3 ((y26 ++ ([a6] : List api_Pick)).flatMap enc_api_Pick)::xrow (some ⟨b175,0,none⟩) 1 88 3 (([a6] : List api_Pick).flatMap enc_api_Pick)::xblk b5 88 (enc_api_Pick a6)::gs173) w')) (v:=(fun st => match st with | none => [.pointer (some ⟨ba0,0,none⟩),.pointer (some ⟨ba0,0,none⟩),.pointer (some ⟨ba0,0,none⟩),.pointer (some ⟨ba0,6,none⟩),.slice y42 y26.length y43,.agg (enc_api_Pick a6).toArray,undef,undef,undef,undef,undef] | some (b175,none) => [.pointer (some ⟨ba0,0,none⟩),.pointer (some ⟨ba0,0,none⟩),.pointer (some ⟨ba0,0,none⟩),.pointer (some ⟨ba0,6,none⟩),.slice y42 y26.length y43,.agg (enc_api_Pick a6).toArray,.slice (some ⟨b175,0,none⟩) ([a6] : List api_Pick).length 1,undef,undef,undef,undef] | some (b175,some (x182,none)) => [.pointer (some ⟨ba0,0,none⟩),.pointer (some ⟨ba0,0,none⟩),.pointer (some ⟨ba0,0,none⟩),.pointer (some ⟨ba0,6,none⟩),.slice y42 y26.length y43,.agg (enc_api_Pick a6).toArray,.slice (some ⟨b175,0,none⟩) ([a6] : List api_Pick).length 1,.slice x182.1 (y26 ++ ([a6] : List api_Pick)).length x182.2,.pointer (some ⟨ba0,0,none⟩),.pointer (some ⟨ba0,6,none⟩),undef] | some (b175,some (x182,some x183)) => [.pointer (some ⟨ba0,0,none⟩),.pointer (some ⟨ba0,0,none⟩),.pointer (some ⟨ba0,0,none⟩),.pointer (some ⟨ba0,6,none⟩),.slice y42 y26.length y43,.agg (enc_api_Pick a6).toArray,.slice (some ⟨b175,0,none⟩) ([a6] : List api_Pick).length 1,.slice x182.1 (y26 ++ ([a6] : List api_Pick)).length x182.2,.pointer (some ⟨ba0,0,none⟩),.pointer (some ⟨ba0,6,none⟩),undef])) (c:=p33_29) (id:=15) none 10 11 [6,7,10] [0,0,0,0,0,0,0,1,2,2,2] [2,2,2,2,1,0,1,2,3,2,3] [] (by kernel_rfl) (by kernel_rfl) (by kernel_rfl) (by kernel_rfl) (by kernel_rfl) (by kernel_rfl) (by kernel_rfl) (by kernel_rfl) (by kernel_rfl) (by kernel_rfl) rfl hS172.drew ?_ ?_ ?_ ?_
    ·intro st w hC
     rcases st with _ | ⟨b175,_ | ⟨x182,_ | x183⟩⟩
     ·exact nbl rfl
     ·exact nbl rfl
     ·exact nbl rfl
     ·exact nbl rfl
    ·intro i hi he st w hC hr hu
     match i,hi,he with
     | 0,_,_ =>
      rcases st with _ | ⟨b175,_ | ⟨x182,_ | x183⟩⟩
      ·dsimp only at hC
       exact dP (.pointer (some ⟨ba0,0,none⟩)) hC
      ·dsimp only at hC
       exact dP (.pointer (some ⟨ba0,0,none⟩)) hC
      ·dsimp only at hC
       exact dP (.pointer (some ⟨ba0,0,none⟩)) hC
      ·exact absurd hu (nle rfl)
     | 1,_,_ =>
      rcases st with _ | ⟨b175,_ | ⟨x182,_ | x183⟩⟩
      ·dsimp only at hC
       exact dP (.pointer (some ⟨ba0,0,none⟩)) hC
      ·dsimp only at hC
       exact dP (.pointer (some ⟨ba0,0,none⟩)) hC
      ·dsimp only at hC
       exact dP (.pointer (some ⟨ba0,0,none⟩)) hC
      ·exact absurd hu (nle rfl)
     | 2,_,_ =>
      rcases st with _ | ⟨b175,_ | ⟨x182,_ | x183⟩⟩
      ·dsimp only at hC
       exact dP (.pointer (some ⟨ba0,0,none⟩)) hC
      ·dsimp only at hC
       exact dP (.pointer (some ⟨ba0,0,none⟩)) hC
      ·dsimp only at hC
       exact dP (.pointer (some ⟨ba0,0,none⟩)) hC
      ·exact absurd hu (nle rfl)
     | 3,_,_ =>
      rcases st with _ | ⟨b175,_ | ⟨x182,_ | x183⟩⟩
      ·dsimp only at hC
       exact dP (.pointer (some ⟨ba0,6,none⟩)) hC
      ·dsimp only at hC
       exact dP (.pointer (some ⟨ba0,6,none⟩)) hC
      ·dsimp only at hC
       exact dP (.pointer (some ⟨ba0,6,none⟩)) hC
      ·exact absurd hu (nle rfl)
     | 4,_,_ =>
      rcases st with _ | ⟨b175,_ | ⟨x182,_ | x183⟩⟩
      ·dsimp only at hC
       exact does_run (x_load (t:=40) (x:=(.tmp 119)) (p:=⟨ba0,6,none⟩) (v:=.slice y42 y26.length y43) (by kernel_rfl) (loads_at 6 (hC.blk 0 rfl) (by kernel_rfl) (by kernel_rfl)) (by kernel_rfl)) rfl hC
      ·dsimp only at hC
       exact does_run (x_load (t:=40) (x:=(.tmp 119)) (p:=⟨ba0,6,none⟩) (v:=.slice y42 y26.length y43) (by kernel_rfl) (loads_at 6 (hC.blk 1 rfl) (by kernel_rfl) (by kernel_rfl)) (by kernel_rfl)) rfl hC
      ·exact absurd hu (nle rfl)
      ·exact absurd hu (nle rfl)
     | 5,_,_ =>
      rcases st with _ | ⟨b175,_ | ⟨x182,_ | x183⟩⟩
      ·dsimp only at hC
       exact does_run (x_load (t:=88) (x:=(.tmp 13)) (p:=⟨b5,0,none⟩) (v:=.agg (enc_api_Pick a6).toArray) (by kernel_rfl) (loads_agg (hC.blk 2 rfl) (by kernel_rfl) (by kernel_rfl)) (by kernel_rfl)) rfl hC
      ·exact absurd hu (nle rfl)
      ·exact absurd hu (nle rfl)
      ·exact absurd hu (nle rfl)
     | 6,_,he => exact absurd he (by decide)
     | 7,_,he => exact absurd he (by decide)
     | 8,_,_ =>
      rcases st with _ | ⟨b175,_ | ⟨x182,_ | x183⟩⟩
      ·exact absurd hr (nle rfl)
      ·exact absurd hr (nle rfl)
      ·dsimp only at hC
       exact dP (.pointer (some ⟨ba0,0,none⟩)) hC
      ·dsimp only at hC
       exact dP (.pointer (some ⟨ba0,0,none⟩)) hC
     | 9,_,_ =>
      rcases st with _ | ⟨b175,_ | ⟨x182,_ | x183⟩⟩
      ·exact absurd hr (nle rfl)
      ·exact absurd hr (nle rfl)
      ·dsimp only at hC
       exact dP (.pointer (some ⟨ba0,6,none⟩)) hC
      ·exact absurd hu (nle rfl)
     | 10,_,he => exact absurd he (by decide)
     | i + 11,hi,_ => exact absurd hi (by omega)
    ·intro k hk st w hC hr
     match k,hk with
     | 0,_ =>
      rcases st with _ | ⟨b175,_ | ⟨x182,_ | x183⟩⟩
      ·dsimp only at hC
       refine does_lit (t:=40) (e:=88) (sz:=3) (n:=1) (parts:=#[(0,(.tmp 121))]) (vs:=[(0,.agg (enc_api_Pick a6).toArray)]) (z:=zeroOf Try.prog 88) (cs':=([a6] : List api_Pick).flatMap enc_api_Pick) hC (by kernel_rfl) (by kernel_rfl) (by kernel_rfl) (by kernel_rfl) (by decide) (by decide) (by kernel_rfl) rfl (Parts.cons (c:=enc_api_Pick a6) (by kernel_rfl) (len_api_Pick _) Parts.nil) rfl ?_
       intro b175 w2 h2
       refine ⟨some (b175,none),rfl,?_,.inr rfl,h2⟩
       intro j hj
       match j,hj with
       | 0,_ => exact rfl
       | 1,_ => exact rfl
       | 2,_ => exact rfl
       | 3,_ => exact rfl
       | 4,_ => exact rfl
       | 5,_ => exact rfl
       | 6,hj => exact absurd hj (by decide)
       | 7,hj => exact absurd hj (by decide)
       | 8,hj => exact absurd hj (by decide)
       | 9,hj => exact absurd hj (by decide)
       | 10,hj => exact absurd hj (by decide)
       | j + 11,_ => exact rfl
      ·exact absurd hr (Nat.ne_of_beq_eq_false rfl)
      ·exact absurd hr (Nat.ne_of_beq_eq_false rfl)
      ·exact absurd hr (Nat.ne_of_beq_eq_false rfl)
     | 1,_ =>
      rcases st with _ | ⟨b175,_ | ⟨x182,_ | x183⟩⟩
      ·exact absurd hr (Nat.ne_of_beq_eq_false rfl)
      ·dsimp only at hC
       have hC:=hC.pick2
       refine does_append (enc:=enc_api_Pick) (e:=88) (u:=88) (t:=40) (t2:=40) (sz:=3) (cp:=y43) (A:=y42) (bytes:=24) (xs:=y26) (ys:=([a6] : List api_Pick)) (s:=(.tmp 120)) (x:=(.tmp 122)) (xv:=.slice (some ⟨b175,0,none⟩) ([a6] : List api_Pick).length 1) (info:=infoOf Try.prog 88) (z:=zeroOf Try.prog 88) (ycs:=([a6] : List api_Pick).flatMap enc_api_Pick) hC (by kernel_rfl) (by kernel_rfl) (by kernel_rfl) (by kernel_rfl) (.inl (by kernel_rfl)) (by kernel_rfl) (by kernel_rfl) (by kernel_rfl) (by kernel_rfl) (by kernel_rfl) (by omega) len_api_Pick one_api_Pick (src_row (hC.row 1 rfl) (by omega) len_api_Pick) rfl g177 (by omega) ?_
       intro A179 c180 w2 h2
       refine ⟨some (b175,some ((A179,c180),none)),rfl,?_,.inr rfl,h2⟩
       intro j hj
       match j,hj with
       | 0,_ => exact rfl
       | 1,_ => exact rfl
       | 2,_ => exact rfl
       | 3,_ => exact rfl
       | 4,_ => exact rfl
       | 5,_ => exact rfl
       | 6,_ => exact rfl
       | 7,hj => exact absurd hj (by decide)
       | 8,hj => exact absurd hj (by decide)
       | 9,hj => exact absurd hj (by decide)
       | 10,hj => exact absurd hj (by decide)
       | j + 11,_ => exact rfl
      ·exact absurd hr (Nat.ne_of_beq_eq_false rfl)
      ·exact absurd hr (Nat.ne_of_beq_eq_false rfl)
     | 2,_ =>
      rcases st with _ | ⟨b175,_ | ⟨x182,_ | x183⟩⟩
      ·exact absurd hr (Nat.ne_of_beq_eq_false rfl)
      ·exact absurd hr (Nat.ne_of_beq_eq_false rfl)
      ·dsimp only at hC
       have hC:=hC.pick2
       refine dS 40 (.tmp 125) (.tmp 123) 6 (.slice x182.1 (y26 ++ ([a6] : List api_Pick)).length x182.2) [.slice x182.1 (y26 ++ ([a6] : List api_Pick)).length x182.2] [.slice A81 (y20 ++ ([a3] : List ByteArray)).length c82,.slice A96 (y21 ++ ([a4] : List Int)).length c97,.slice A114 (y22 ++ [([] : List weirref14_Move)]).length c115,.slice A129 (y23 ++ ([t47] : List Bool)).length c130,.slice x149.1 (y24 ++ ([t46] : List api_Final)).length x149.2,.slice A162 (y25 ++ ([a5] : List Int)).length c163,.slice x182.1 (y26 ++ ([a6] : List api_Pick)).length x182.2,.bool y27,.map (some y44)] hC ?_
       intro w2 h2
       refine ⟨some (b175,some (x182,some ())),rfl,?_,.inl rfl,h2⟩
       intro j hj
       match j,hj with
       | 0,_ => exact rfl
       | 1,_ => exact rfl
       | 2,_ => exact rfl
       | 3,_ => exact rfl
       | 4,_ => exact rfl
       | 5,_ => exact rfl
       | 6,_ => exact rfl
       | 7,_ => exact rfl
       | 8,_ => exact rfl
       | 9,_ => exact rfl
       | 10,hj => exact absurd hj (by decide)
       | j + 11,_ => exact rfl
      ·exact absurd hr (Nat.ne_of_beq_eq_false rfl)
     | k + 3,hk => exact absurd hk (by simp)
    intro st187 w184 hS185 hr186
    rcases st187 with _ | ⟨b175,_ | ⟨x182,_ | x183⟩⟩
    ·exact absurd hr186 (nle rfl)
    ·exact absurd hr186 (nle rfl)
    ·exact absurd hr186 (nle rfl)
    replace hS185 : St w0 Z (xblk ba0 43 ([.slice A81 (y20 ++ ([a3] : List ByteArray)).length c82,.slice A96 (y21 ++ ([a4] : List Int)).length c97,.slice A114 (y22 ++ [([] : List weirref14_Move)]).length c115,.slice A129 (y23 ++ ([t47] : List Bool)).length c130,.slice x149.1 (y24 ++ ([t46] : List api_Final)).length x149.2,.slice A162 (y25 ++ ([a5] : List Int)).length c163,.slice x182.1 (y26 ++ ([a6] : List api_Pick)).length x182.2,.bool y27,.map (some y44)])::xrow x182.1 x182.2 88 3 ((y26 ++ ([a6] : List api_Pick)).flatMap enc_api_Pick)::xrow (some ⟨b175,0,none⟩) 1 88 3 (([a6] : List api_Pick).flatMap enc_api_Pick)::xblk b5 88 (enc_api_Pick a6)::gs173) w184:=hS185
    subst hg174
    refine sR 5 [iR (cd33 [1,1,1,1,1,1,1,1,1,1,1,1,1,0]) 3 4,.code p33_32] ?_
    refine rL1 36 (.tmp 128) 0 (hS185.blk 0 rfl) ?_
    refine sR 4 [.code p33_32] ?_
    refine r_isret (c:=p33_32) (by kernel_rfl) ?_
    have hS188:=hS185.pick2
    have hS189:=hS188.drop
    have hS190:=hS189.pick2
    have hS191:=hS190.drop
    have hS192:=hS191.pick3
    have hS193:=hS192.drop
    have hS194:=hS193.pick4
    have hS195:=hS194.drop
    have hS196:=hS195.pick4
    have hS197:=hS196.drop
    have hS198:=hS197.pick5
    have hS199:=hS198.drop
    have hS200:=hS199.pick6
    have hS201:=hS200.drop
    have hS202:=hS201.pick7
    have hS203:=hS202.drop
    have hS204:=hS203.pick8
    have hS205:=hS204.drop
    have hS206:=hS205.pick15
    have hS207:=hS206.drop
    have hS208:=hS207.pick14
    have hS209:=hS208.pick14
    have hS210:=hS209.pick14
    have hS211:=hS210.pick14
    have hS212:=hS211.pick14
    have hS213:=hS212.pick14
    have hS214:=hS213.pick14
    have hS215:=hS214.pick7
    have hS216:=hS215.pick8
    have hS217:=hS216.pick9
    have hS218:=hS217.pick10
    have hS219:=hS218.pick11
    have hS220:=hS219.pick12
    have hS221:=hS220.pick13
    have hS222:=hS221.pick14
    refine rR (.int .i64 (IntKind.i64.wrap (((y20 ++ ([a3] : List ByteArray)).length : Int) - 1))) Try.func33 ?_
    cases Option.some.inj hp178
    exact hR _ _ ⟨A81,c82,A96,c97,A114,c115,((upd y35 y22.length (none,0))),A129,c130,x149.1,x149.2,A162,c163,x182.1,x182.2,rfl,hS222⟩
   have hp224:=ite_t hp11 rfl
   refine sR 6 [.code (cd33 [1,1,0,1,0,1]),.code (cd33 [1,1,1])] ?_
   have hS225:=hS15.pick9
   have hS226:=hS225.drop
   have hS227:=hS226.pick15
   have hS228:=hS227.drop
   have hS229:=hS228.pick14
   have hS230:=hS229.pick14
   have hS231:=hS230.pick14
   have hS232:=hS231.pick14
   have hS233:=hS232.pick14
   have hS234:=hS233.pick14
   have hS235:=hS234.pick14
   have hS236:=hS235.pick7
   have hS237:=hS236.pick14
   have hS238:=hS237.pick14
   have hS239:=hS238.pick14
   have hS240:=hS239.pick14
   have hS241:=hS240.pick14
   have hS242:=hS241.pick14
   have hS243:=hS242.pick14
   refine rR (.int .i64 t12) Try.func33 ?_
   cases Option.some.inj hp224
   exact hR _ _ ⟨y29,y30,y31,y32,y33,y34,(y35),y36,y37,y38,y39,y40,y41,y42,y43,rfl,hS243⟩
  refine sI 3 [.inRegion (opsOf (cd33 [1,0])) [9,10],.code (cd33 [1,1])] 27 hv10 (fun hp247 => ?_) fun hp264 => ?_
  ·refine sR 5 td64 ?_
   have hS248:=hS7.pick16
   have hS249:=hS248.pick16
   have hS250:=hS249.pick16
   have hS251:=hS250.pick16
   have hS252:=hS251.pick16
   have hS253:=hS252.pick16
   have hS254:=hS253.pick7
   have hS255:=hS254.pick16
   have hS256:=hS255.pick16
   have hS257:=hS256.pick16
   have hS258:=hS257.pick16
   have hS259:=hS258.pick16
   have hS260:=hS259.pick16
   have hS261:=hS260.pick16
   have hS262:=hS261.pick16
   have hS263:=hS262.pick16
   exact rF _ (J16 ((mget a0v_8m a3).getD (0 : Int)) true (Option.some.inj hp247) _ _ hS263)
  refine sR 5 td64 ?_
  have hS265:=hS7.pick16
  have hS266:=hS265.pick16
  have hS267:=hS266.pick16
  have hS268:=hS267.pick16
  have hS269:=hS268.pick16
  have hS270:=hS269.pick16
  have hS271:=hS270.pick7
  have hS272:=hS271.pick16
  have hS273:=hS272.pick16
  have hS274:=hS273.pick16
  have hS275:=hS274.pick16
  have hS276:=hS275.pick16
  have hS277:=hS276.pick16
  have hS278:=hS277.pick16
  have hS279:=hS278.pick16
  have hS280:=hS279.pick16
  exact rF _ (J16 ((mget a0v_8m a3).getD (0 : Int)) false (Option.some.inj hp264) _ _ hS280)

noncomputable def cd10 (p : List Nat) : Code := sub (bodyOf Try.f10) p
abbrev p10_4:=cd10 [1,1,0]
abbrev p10_5:=cd10 [1,1,1]
abbrev p10_10:=cd10 [1,1,1,0,1,0,0,0,0]
abbrev p10_11:=cd10 [1,1,1,0,1,0,0,0,1]
abbrev p10_13:=cd10 [1,1,1,0,1,0,0,1,0,0,0]
abbrev p10_16:=cd10 [1,1,1,0,1,0,0,1,0,0,1,1,0,0]
abbrev p10_20:=cd10 [1,1,1,0,1,0,0,1,0,0,1,1,0,0,1,0,0,0]
abbrev p10_26:=cd10 [1,1,1,0,1,0,0,1,0,0,1,1,0,0,1,0,0,1,1,0]
abbrev p10_30:=cd10 [1,1,1,0,1,0,0,1,0,0,1,1,0,0,1,0,0,1,1,1,1,0]
abbrev td65:List Item:=[.code (cd10 [1,1,1,1])]
abbrev td66:List Item:=.inBlock 0::td65
abbrev td67:List Item:=.inLoop (cd10 [1,1,1,0,1,0,0])::td66
abbrev td68:List Item:=.code (cd10 [1,1,1,0,1,0,0])::td67
abbrev td69:List Item:=.code (cd10 [1,1,1,0,1,0,0,1,1])::td67
abbrev td70:List Item:=.inBlock 1::td69
abbrev td71:List Item:=.inBlock 2::td70
abbrev td72:List Item:=.inLoop p10_16::td71
abbrev td73:List Item:=.code p10_16::td72
abbrev td74:List Item:=.code (cd10 [1,1,1,0,1,0,0,1,0,0,1,1,0,0,1,1])::td72
abbrev td75:List Item:=.inBlock 3::td74
def weirref14_Lay.l1 (y9 : ByteArray) (a0_1c1v : weirlaw14_Net) (a1 t138 : Int) (t194 : List api_Pick) (t196 : List (ByteArray × Int)) (t255 : Int) (t256 : Bool) (t257 t258 t259 : List (ByteArray × Int)) (t260 : List ByteArray) (t264 : List Int) (t268 : List (List weirref14_Move)) (t273 : List Bool) (t277 : List api_Final) (t281 : List Int) (t285 : List api_Pick) (t289 : Bool) : Option (Bool × (List (ByteArray × Int)) × (List (ByteArray × Int)) × (List ByteArray) × (List Int) × (List (List weirref14_Move)) × (List Bool) × (List api_Final) × (List Int) × (List api_Pick) × Bool × (List (ByteArray × Int))) :=
  (if (decide (t255 < (t194.length : Int))) = true then (if 0 ≤ t138 ∧ t138 < (t260.length : Int) then (if 0 ≤ t255 ∧ t255 < (t194.length : Int) then (weirlaw14_Net__machine_2.f (gt t260 t138) (gt t194 t255) a0_1c1v t196 t258 t257 t256 >>= (fun (t326,t327,t328,t329) => (if (!t327) = true then (weirref14_Lay.l1 y9 a0_1c1v a1 t138 t194 t196 (IntKind.i64.wrap (t255 + 1)) t328 t329 (id t258) (id t259) (id t260) (id t264) (id t268) (id t273) (id t277) (id t281) (id t285) (id t289)) else (if 0 ≤ t138 ∧ t138 < (t264.length : Int) then (if 0 ≤ t255 ∧ t255 < (t194.length : Int) then (weirref14_Graph__put.f t260 t264 t268 t273 t277 t281 t285 t289 t259 y9 t196 t258 t329 t328 a0_1c1v a1 t326 (IntKind.i64.wrap ((gt t264 t138) + 1)) t138 (gt t194 t255) >>= (fun (t421,t422,t423,t424,t425,t426,t427,t428,t429,t430,t431,t432) => (if (decide (t421 ≥ 0)) = true then (if 0 ≤ t138 ∧ t138 < (t424.length : Int) then (if 0 ≤ t255 ∧ t255 < (t194.length : Int) then (if ((gt t424 t138).length + ([(⟨t421,(gt t194 t255)⟩ : weirref14_Move)] : List weirref14_Move).length) * 32 ≤ 140737488355328 then (weirref14_Lay.l1 y9 a0_1c1v a1 t138 t194 t196 (IntKind.i64.wrap (t255 + 1)) t431 t329 t432 t430 t422 t423 (setl t424 t138 ((gt t424 t138) ++ ([(⟨t421,(gt t194 t255)⟩ : weirref14_Move)] : List weirref14_Move))) t425 t426 t427 t428 t429) else none) else none) else none) else (weirref14_Lay.l1 y9 a0_1c1v a1 t138 t194 t196 (IntKind.i64.wrap (t255 + 1)) t431 t329 t432 t430 t422 t423 t424 t425 t426 t427 t428 t429)))) else none) else none)))) else none) else none) else some ((t256,t258,t257,t260,t264,t268,t273,t277,t281,t285,t289,t259)))
 partial_fixpoint
def weirref14_Lay.l0 (y9 : ByteArray) (a0_1c1v : weirlaw14_Net) (a1 t138 : Int) (t139 : Bool) (t140 t141 : List (ByteArray × Int)) (t142 t143 : List (ByteArray × Int)) (t144 : List ByteArray) (t148 : List Int) (t152 : List (List weirref14_Move)) (t157 : List Bool) (t161 : List api_Final) (t165 : List Int) (t169 : List api_Pick) (t173 : Bool) : Option ((List ByteArray) × (List Int) × (List (List weirref14_Move)) × (List Bool) × (List api_Final) × (List Int) × (List api_Pick) × Bool × (List (ByteArray × Int)) × Bool × (List (ByteArray × Int)) × (List (ByteArray × Int)) × (List (ByteArray × Int))) :=
  (if (decide (t138 < (t144.length : Int))) = true then (if 0 ≤ t138 ∧ t138 < (t144.length : Int) then (weirlaw14_Net__machine_1.f (gt t144 t138) t140 t141 t142 t139 a0_1c1v >>= (fun (t194,t195,t196) => (weirref14_Lay.l1 y9 a0_1c1v a1 t138 t194 t196 0 t195 t142 t141 t143 t144 t148 t152 t157 t161 t165 t169 t173 >>= (fun (t216,t217,t218,t219,t223,t227,t232,t236,t240,t244,t248,t249) => (weirref14_Lay.l0 y9 a0_1c1v a1 (IntKind.i64.wrap (t138 + 1)) t216 t196 t217 t218 t249 t219 t223 t227 t232 t236 t240 t244 t248))))) else none) else some ((t144,t148,t152,t157,t161,t165,t169,t173,t143,t139,t140,t141,t142)))
 partial_fixpoint
def weirref14_Lay.f (y9 : ByteArray) (a0_1c0vv_0m a0_1c0vv_1m a0_1c0vv_2m : List (ByteArray × Int)) (a0_1c0vv_3 : Bool) (a0_1c1v : weirlaw14_Net) (a1 : Int) : Option ((List ByteArray) × (List Int) × (List (List weirref14_Move)) × (List Bool) × (List api_Final) × (List Int) × (List api_Pick) × Bool × (List (ByteArray × Int)) × Bool × (List (ByteArray × Int)) × (List (ByteArray × Int)) × (List (ByteArray × Int))) :=
  (weirref14_Graph__put.f ([] : List ByteArray) ([] : List Int) ([] : List (List weirref14_Move)) ([] : List Bool) ([] : List api_Final) ([] : List Int) ([] : List api_Pick) true ([] : List (ByteArray × Int)) y9 a0_1c0vv_0m a0_1c0vv_1m a0_1c0vv_2m a0_1c0vv_3 a0_1c1v a1 y9 0 (-1) (⟨0,0,0⟩ : api_Pick) >>= (fun (t34,t35,t36,t37,t38,t39,t40,t41,t42,t43,t44,t45) => (weirref14_Lay.l0 y9 a0_1c1v a1 0 t44 a0_1c0vv_0m t45 a0_1c0vv_2m t43 t35 t36 t37 t38 t39 t40 t41 t42 >>= (fun (t93,t97,t101,t106,t110,t114,t118,t122,t123,t124,t125,t126,t127) => some ((t93,t97,t101,t106,t110,t114,t118,t122,t123,t124,t125,t126,t127))))))
theorem weirref14_Lay.ok {y9 : ByteArray} {a0_1c0vv_0m a0_1c0vv_1m a0_1c0vv_2m : List (ByteArray × Int)} {a0_1c0vv_3 : Bool} {a0_1c1v : weirlaw14_Net} {a1 : Int} {ba0_1c0 ba0_1c0v : Nat} {ba0_1c0vv_0 ba0_1c0vv_1 : Nat} {ba0_1c0vv_2 ba0_1c1 : Nat} {Aa0_1c1v_0 : Option Addr} {ca0_1c1v_0 : Nat} {Aa0_1c1v_1 : Option Addr} {ca0_1c1v_1 : Nat} {Aa0_1c1v_2 : Option Addr} {ca0_1c1v_2 : Nat} {q0 : List ByteArray} {q1 : List Int} {q2 : List (List weirref14_Move)} {q3 : List Bool} {q4 : List api_Final} {q5 : List Int} {q6 : List api_Pick} {q7 : Bool} {q8 : List (ByteArray × Int)} {q9 : Bool} {q10 q11 q12 : List (ByteArray × Int)} (hp0 : weirref14_Lay.f y9 a0_1c0vv_0m a0_1c0vv_1m a0_1c0vv_2m a0_1c0vv_3 a0_1c1v a1 = some (q0,q1,q2,q3,q4,q5,q6,q7,q8,q9,q10,q11,q12)) (hS0 : St w0 Z (xblk ba0_1c0 33 ([.pointer (some ⟨ba0_1c0v,0,none⟩)])::xblk ba0_1c0v 49 ([.map (some ba0_1c0vv_0),.map (some ba0_1c0vv_1),.map (some ba0_1c0vv_2),.bool a0_1c0vv_3])::xmap ba0_1c0vv_0 (a0_1c0vv_0m.map (kv Value.string (Value.int .i64)))::xmap ba0_1c0vv_1 (a0_1c0vv_1m.map (kv Value.string (Value.int .i64)))::xmap ba0_1c0vv_2 (a0_1c0vv_2m.map (kv Value.string (Value.int .i64)))::xblk ba0_1c1 26 ([.slice Aa0_1c1v_0 a0_1c1v.Next.length ca0_1c1v_0,.slice Aa0_1c1v_1 a0_1c1v.End.length ca0_1c1v_1,.slice Aa0_1c1v_2 a0_1c1v.Value.length ca0_1c1v_2,.int .i64 a0_1c1v.Start])::fs) w) (ha0_1c1v_0 : SlZ (repL (flat (encI .i64)) 1) 1 Z Aa0_1c1v_0 ca0_1c1v_0 a0_1c1v.Next) (ha0_1c1v_1 : SlZ (flat encB) 1 Z Aa0_1c1v_1 ca0_1c1v_1 a0_1c1v.End) (ha0_1c1v_2 : SlZ (flat (encI .i64)) 1 Z Aa0_1c1v_2 ca0_1c1v_2 a0_1c1v.Value) :
    Calls Try.prog 10 #[.agg #[.string y9,.func (.func 28) #[] #[.pointer (some ⟨ba0_1c0,0,none⟩),.pointer (some ⟨ba0_1c1,0,none⟩)],.func (.func 31) #[] #[.pointer (some ⟨ba0_1c1,0,none⟩),.pointer (some ⟨ba0_1c0,0,none⟩)],.func (.func 32) #[] #[.pointer (some ⟨ba0_1c0,0,none⟩),.pointer (some ⟨ba0_1c1,0,none⟩)]],.int .i64 a1] w (fun e w' => ∃ (QA0 : Option Addr) (Qc0 : Nat) (QA2 : Option Addr) (Qc2 : Nat) (QA4 : Option Addr) (Qc4 : Nat) (Qh4 : Nat → Option Addr × Nat) (QA7 : Option Addr) (Qc7 : Nat) (QA9 : Option Addr) (Qc9 : Nat) (QA11 : Option Addr) (Qc11 : Nat) (QA13 : Option Addr) (Qc13 : Nat) (Qb15 : Nat),e = .returned (.agg #[.slice QA0 q0.length Qc0,.slice QA2 q1.length Qc2,.slice QA4 q2.length Qc4,.slice QA7 q3.length Qc7,.slice QA9 q4.length Qc9,.slice QA11 q5.length Qc11,.slice QA13 q6.length Qc13,.bool q7,.map (some Qb15)]) ∧ St w0 Z (xrow QA0 Qc0 9 1 (q0.flatMap encS)::xrow QA2 Qc2 3 1 (q1.flatMap (encI .i64))::xrr QA4 Qc4 93 Qh4 95 4 enc_weirref14_Move q2::xrow QA7 Qc7 4 1 (q3.flatMap encB)::xrow QA9 Qc9 84 49 (q4.flatMap enc_api_Final)::xrow QA11 Qc11 3 1 (q5.flatMap (encI .i64))::xrow QA13 Qc13 88 3 (q6.flatMap enc_api_Pick)::xmap Qb15 (q8.map (kv Value.string (Value.int .i64)))::xblk ba0_1c0 33 ([.pointer (some ⟨ba0_1c0v,0,none⟩)])::xblk ba0_1c0v 49 ([.map (some ba0_1c0vv_0),.map (some ba0_1c0vv_1),.map (some ba0_1c0vv_2),.bool q9])::xmap ba0_1c0vv_0 (q10.map (kv Value.string (Value.int .i64)))::xmap ba0_1c0vv_1 (q11.map (kv Value.string (Value.int .i64)))::xmap ba0_1c0vv_2 (q12.map (kv Value.string (Value.int .i64)))::xblk ba0_1c1 26 ([.slice Aa0_1c1v_0 a0_1c1v.Next.length ca0_1c1v_0,.slice Aa0_1c1v_1 a0_1c1v.End.length ca0_1c1v_1,.slice Aa0_1c1v_2 a0_1c1v.Value.length ca0_1c1v_2,.int .i64 a0_1c1v.Start])::fs) w'):=by
  refine calls_abs ?_; intro R hR
  unfold weirref14_Lay.f at hp0
  refine calls_of_runs (fn:=Try.f10) (c:=cd10 []) Try.func10 (by kernel_rfl) (al:=[.agg #[.string y9,.func (.func 28) #[] #[.pointer (some ⟨ba0_1c0,0,none⟩),.pointer (some ⟨ba0_1c1,0,none⟩)],.func (.func 31) #[] #[.pointer (some ⟨ba0_1c1,0,none⟩),.pointer (some ⟨ba0_1c0,0,none⟩)],.func (.func 32) #[] #[.pointer (some ⟨ba0_1c0,0,none⟩),.pointer (some ⟨ba0_1c1,0,none⟩)]],.int .i64 a1]) rfl (n:=91) rfl ?_
  refine sR 2 [.inRegion (opsOf (cd10 [0])) [0,1],.code (cd10 [1])] ?_
  refine r_box (c:=(cd10 [0])) (i:=0) (d:=(some 2)) (ty:=0) (x:=(.tmp 0)) (v:=.agg #[.string y9,.func (.func 28) #[] #[.pointer (some ⟨ba0_1c0,0,none⟩),.pointer (some ⟨ba0_1c1,0,none⟩)],.func (.func 31) #[] #[.pointer (some ⟨ba0_1c1,0,none⟩),.pointer (some ⟨ba0_1c0,0,none⟩)],.func (.func 32) #[] #[.pointer (some ⟨ba0_1c0,0,none⟩),.pointer (some ⟨ba0_1c1,0,none⟩)]]) (t:=32) (cs:=[.string y9,.func (.func 28) #[] #[.pointer (some ⟨ba0_1c0,0,none⟩),.pointer (some ⟨ba0_1c1,0,none⟩)],.func (.func 31) #[] #[.pointer (some ⟨ba0_1c1,0,none⟩),.pointer (some ⟨ba0_1c0,0,none⟩)],.func (.func 32) #[] #[.pointer (some ⟨ba0_1c0,0,none⟩),.pointer (some ⟨ba0_1c1,0,none⟩)]]) hS0 (by kernel_rfl) (by kernel_rfl) (by kernel_rfl) (by kernel_rfl) ?_
  intro b1 w2 hS3
  refine rA 43 (.agg #[.slice none 0 0,.slice none 0 0,.slice none 0 0,.slice none 0 0,.slice none 0 0,.slice none 0 0,.slice none 0 0,.bool false,.map none]) [.slice none 0 0,.slice none 0 0,.slice none 0 0,.slice none 0 0,.slice none 0 0,.slice none 0 0,.slice none 0 0,.bool false,.map none] hS3 ?_
  intro b5 w6 hS7
  refine sR 3 [iR (cd10 [1,0]) 0 4,.code (cd10 [1,1])] ?_
  refine r_makeMap (c:=(cd10 [1,0])) (i:=0) (d:=(some 12)) (ty:=41) (t:=41) hS7 (by kernel_rfl) (by kernel_rfl) ?_
  intro b9 w10 hS11
  have hS13 : St w0 Z (xmap b9 (([] : List (ByteArray × Int)).map (kv Value.string (Value.int .i64)))::xblk b5 43 ([.slice none 0 0,.slice none 0 0,.slice none 0 0,.slice none 0 0,.slice none 0 0,.slice none 0 0,.slice none 0 0,.bool false,.map none])::xblk b1 32 ([.string y9,.func (.func 28) #[] #[.pointer (some ⟨ba0_1c0,0,none⟩),.pointer (some ⟨ba0_1c1,0,none⟩)],.func (.func 31) #[] #[.pointer (some ⟨ba0_1c1,0,none⟩),.pointer (some ⟨ba0_1c0,0,none⟩)],.func (.func 32) #[] #[.pointer (some ⟨ba0_1c0,0,none⟩),.pointer (some ⟨ba0_1c1,0,none⟩)]])::xblk ba0_1c0 33 ([.pointer (some ⟨ba0_1c0v,0,none⟩)])::xblk ba0_1c0v 49 ([.map (some ba0_1c0vv_0),.map (some ba0_1c0vv_1),.map (some ba0_1c0vv_2),.bool a0_1c0vv_3])::xmap ba0_1c0vv_0 (a0_1c0vv_0m.map (kv Value.string (Value.int .i64)))::xmap ba0_1c0vv_1 (a0_1c0vv_1m.map (kv Value.string (Value.int .i64)))::xmap ba0_1c0vv_2 (a0_1c0vv_2m.map (kv Value.string (Value.int .i64)))::xblk ba0_1c1 26 ([.slice Aa0_1c1v_0 a0_1c1v.Next.length ca0_1c1v_0,.slice Aa0_1c1v_1 a0_1c1v.End.length ca0_1c1v_1,.slice Aa0_1c1v_2 a0_1c1v.Value.length ca0_1c1v_2,.int .i64 a0_1c1v.Start])::fs) w10:=hS11
  refine sR 1 [.inRegion (opsOf (cd10 [1,0])) [2,3],.code (cd10 [1,1])] ?_
  refine rA 43 (.agg #[.slice none 0 0,.slice none 0 0,.slice none 0 0,.slice none 0 0,.slice none 0 0,.slice none 0 0,.slice none 0 0,.bool false,.map none]) [.slice none 0 0,.slice none 0 0,.slice none 0 0,.slice none 0 0,.slice none 0 0,.slice none 0 0,.slice none 0 0,.bool false,.map none] hS13 ?_
  intro b14 w15 hS16
  refine rS 43 (.tmp 5) (.tmp 13) 0 (.agg #[.slice none 0 0,.slice none 0 0,.slice none 0 0,.slice none 0 0,.slice none 0 0,.slice none 0 0,.slice none 0 0,.bool true,.map (some b9)]) [.slice none 0 0,.slice none 0 0,.slice none 0 0,.slice none 0 0,.slice none 0 0,.slice none 0 0,.slice none 0 0,.bool true,.map (some b9)] [.slice none 0 0,.slice none 0 0,.slice none 0 0,.slice none 0 0,.slice none 0 0,.slice none 0 0,.slice none 0 0,.bool true,.map (some b9)] hS16 ?_
  intro w18 hS19
  refine sR 3 [iR p10_4 0 6,.code p10_5] ?_
  refine rLa 32 (.tmp 2) (hS19.blk 3 rfl) ?_
  refine sR 2 [.inRegion (opsOf p10_4) [3,4,5],.code p10_5] ?_
  refine rL1 9 (.tmp 16) 0 (hS19.blk 3 rfl) ?_
  refine sR 1 [.inRegion (opsOf p10_4) [5],.code p10_5] ?_
  have hS21:=hS19.nilrow none 9 1
  have hS23:=hS21.nilrow none 3 1
  have hS25:=hS23.rrNone 93 95 4 enc_weirref14_Move
  have hS27:=hS25.nilrow none 4 1
  have hS29:=hS27.nilrow none 84 49
  have hS31:=hS29.nilrow none 3 1
  have hS33:=hS31.nilrow none 88 3
  obtain ⟨⟨t34,t35,t36,t37,t38,t39,t40,t41,t42,t43,t44,t45⟩,hr61,hp62⟩:=bind_some' hp0
  try dsimp only at hp62
  have hS73:=hS33.pick16
  have hS74:=hS73.pick16
  have hS75:=hS74.pick16
  have hS76:=hS75.pick16
  have hS77:=hS76.pick16
  have hS78:=hS77.pick16
  have hS79:=hS78.pick14
  have hS80:=hS79.pick7
  have hS81:=hS80.pick8
  have hS82:=hS81.pick9
  have hS83:=hS82.pick10
  have hS84:=hS83.pick11
  have hS85:=hS84.pick12
  have hS86:=hS85.pick13
  have hS87:=hS86.pick14
  refine rC (weirref14_Graph__put.ok hr61 hS87 ha0_1c1v_0 ha0_1c1v_1 ha0_1c1v_2) ?_
  rintro _ w88 ⟨Q46,Q47,Q48,Q49,Q50,Q51,Q52,Q53,Q54,Q55,Q56,Q57,Q58,Q59,Q60,rfl,hS89⟩
  refine ⟨_,rfl,?_⟩
  refine sR 8 td68 ?_
  obtain ⟨v90,hv91,hp92⟩:=bind_some' hp62
  have J130 : ∀ (t93 : List ByteArray) (t97 : List Int) (t101 : List (List weirref14_Move)) (t106 : List Bool) (t110 : List api_Final) (t114 : List Int) (t118 : List api_Pick) (t122 : Bool) (t123 : List (ByteArray × Int)) (t124 : Bool) (t125 t126 t127 : List (ByteArray × Int)) (he132 : (t93,t97,t101,t106,t110,t114,t118,t122,t123,t124,t125,t126,t127) = v90) (l131 : List Value) (A94 : Option Addr) (c95 : Nat) (A98 : Option Addr) (c99 : Nat) (A102 : Option Addr) (c103 : Nat) (h105 : Nat → Option Addr × Nat) (A107 : Option Addr) (c108 : Nat) (A111 : Option Addr) (c112 : Nat) (A115 : Option Addr) (c116 : Nat) (A119 : Option Addr) (c120 : Nat) (w128 : World) (hS129 : St w0 Z (xblk b5 43 ([.slice none 0 0,.slice none 0 0,.slice none 0 0,.slice none 0 0,.slice none 0 0,.slice none 0 0,.slice none 0 0,.bool false,.map none])::xblk b14 43 ([.slice A94 t93.length c95,.slice A98 t97.length c99,.slice A102 t101.length c103,.slice A107 t106.length c108,.slice A111 t110.length c112,.slice A115 t114.length c116,.slice A119 t118.length c120,.bool t122,.map (some b9)])::xrow A94 c95 9 1 (t93.flatMap encS)::xrow A98 c99 3 1 (t97.flatMap (encI .i64))::xrr A102 c103 93 h105 95 4 enc_weirref14_Move t101::xrow A107 c108 4 1 (t106.flatMap encB)::xrow A111 c112 84 49 (t110.flatMap enc_api_Final)::xrow A115 c116 3 1 (t114.flatMap (encI .i64))::xrow A119 c120 88 3 (t118.flatMap enc_api_Pick)::xmap b9 (t123.map (kv Value.string (Value.int .i64)))::xblk ba0_1c0 33 ([.pointer (some ⟨ba0_1c0v,0,none⟩)])::xblk ba0_1c0v 49 ([.map (some ba0_1c0vv_0),.map (some ba0_1c0vv_1),.map (some ba0_1c0vv_2),.bool t124])::xmap ba0_1c0vv_0 (t125.map (kv Value.string (Value.int .i64)))::xmap ba0_1c0vv_1 (t126.map (kv Value.string (Value.int .i64)))::xmap ba0_1c0vv_2 (t127.map (kv Value.string (Value.int .i64)))::xblk ba0_1c1 26 ([.slice Aa0_1c1v_0 a0_1c1v.Next.length ca0_1c1v_0,.slice Aa0_1c1v_1 a0_1c1v.End.length ca0_1c1v_1,.slice Aa0_1c1v_2 a0_1c1v.Value.length ca0_1c1v_2,.int .i64 a0_1c1v.Start])::fs) w128),Runs Try.prog (fx 10) td65 (fill (mk 93 [(4,.pointer (some ⟨b5,0,none⟩)),(5,.pointer (some ⟨b14,0,none⟩))]) l131) w128 R:=by
   intro t93 t97 t101 t106 t110 t114 t118 t122 t123 t124 t125 t126 t127 he132 l131 A94 c95 A98 c99 A102 c103 h105 A107 c108 A111 c112 A115 c116 A119 c120 w128 hS129
   subst he132
   try dsimp only at hp92
   refine sR 2 [.inRegion (opsOf (cd10 [1,1,1,1,0])) [0,1],.code (cd10 [1,1,1,1,1])] ?_
   refine rLa 43 (.tmp 5) (hS129.blk 1 rfl) ?_
   refine rS 43 (.tmp 4) (.tmp 92) 0 (.agg #[.slice A94 t93.length c95,.slice A98 t97.length c99,.slice A102 t101.length c103,.slice A107 t106.length c108,.slice A111 t110.length c112,.slice A115 t114.length c116,.slice A119 t118.length c120,.bool t122,.map (some b9)]) [.slice A94 t93.length c95,.slice A98 t97.length c99,.slice A102 t101.length c103,.slice A107 t106.length c108,.slice A111 t110.length c112,.slice A115 t114.length c116,.slice A119 t118.length c120,.bool t122,.map (some b9)] [.slice A94 t93.length c95,.slice A98 t97.length c99,.slice A102 t101.length c103,.slice A107 t106.length c108,.slice A111 t110.length c112,.slice A115 t114.length c116,.slice A119 t118.length c120,.bool t122,.map (some b9)] hS129 ?_
   intro w133 hS134
   refine sR 1 [.code (cd10 [1,1,1,1,1])] ?_
   have hS135:=hS134.drop
   have hS136:=hS135.drop
   refine rRc (.agg #[.slice A94 t93.length c95,.slice A98 t97.length c99,.slice A102 t101.length c103,.slice A107 t106.length c108,.slice A111 t110.length c112,.slice A115 t114.length c116,.slice A119 t118.length c120,.bool t122,.map (some b9)]) (.ca 4 43 (hS134.blk 0 rfl) .nil) Try.func10 ?_
   cases Option.some.inj hp92
   exact hR _ _ ⟨A94,c95,A98,c99,A102,c103,(h105),A107,c108,A111,c112,A115,c116,A119,c120,b9,rfl,hS136⟩
  have L182 : ∀ (t138 : Int) (t139 : Bool) (t140 t141 : List (ByteArray × Int)) (t142 t143 : List (ByteArray × Int)) (t144 : List ByteArray) (t148 : List Int) (t152 : List (List weirref14_Move)) (t157 : List Bool) (t161 : List api_Final) (t165 : List Int) (t169 : List api_Pick) (t173 : Bool) (e177 : ((List ByteArray) × (List Int) × (List (List weirref14_Move)) × (List Bool) × (List api_Final) × (List Int) × (List api_Pick) × Bool × (List (ByteArray × Int)) × Bool × (List (ByteArray × Int)) × (List (ByteArray × Int)) × (List (ByteArray × Int)))),weirref14_Lay.l0 y9 a0_1c1v a1 t138 t139 t140 t141 t142 t143 t144 t148 t152 t157 t161 t165 t169 t173 = some e177 → e177 = v90 → ∀ (l176 : List Value) (A145 : Option Addr) (c146 : Nat) (A149 : Option Addr) (c150 : Nat) (A153 : Option Addr) (c154 : Nat) (h156 : Nat → Option Addr × Nat) (A158 : Option Addr) (c159 : Nat) (A162 : Option Addr) (c163 : Nat) (A166 : Option Addr) (c167 : Nat) (A170 : Option Addr) (c171 : Nat) (w174 : World) (hS175 : St w0 Z (xblk b1 32 ([.string y9,.func (.func 28) #[] #[.pointer (some ⟨ba0_1c0,0,none⟩),.pointer (some ⟨ba0_1c1,0,none⟩)],.func (.func 31) #[] #[.pointer (some ⟨ba0_1c1,0,none⟩),.pointer (some ⟨ba0_1c0,0,none⟩)],.func (.func 32) #[] #[.pointer (some ⟨ba0_1c0,0,none⟩),.pointer (some ⟨ba0_1c1,0,none⟩)]])::xblk ba0_1c0 33 ([.pointer (some ⟨ba0_1c0v,0,none⟩)])::xblk ba0_1c0v 49 ([.map (some ba0_1c0vv_0),.map (some ba0_1c0vv_1),.map (some ba0_1c0vv_2),.bool t139])::xmap ba0_1c0vv_0 (t140.map (kv Value.string (Value.int .i64)))::xmap ba0_1c0vv_1 (t141.map (kv Value.string (Value.int .i64)))::xmap ba0_1c0vv_2 (t142.map (kv Value.string (Value.int .i64)))::xblk ba0_1c1 26 ([.slice Aa0_1c1v_0 a0_1c1v.Next.length ca0_1c1v_0,.slice Aa0_1c1v_1 a0_1c1v.End.length ca0_1c1v_1,.slice Aa0_1c1v_2 a0_1c1v.Value.length ca0_1c1v_2,.int .i64 a0_1c1v.Start])::xblk b5 43 ([.slice none 0 0,.slice none 0 0,.slice none 0 0,.slice none 0 0,.slice none 0 0,.slice none 0 0,.slice none 0 0,.bool false,.map none])::xblk b14 43 ([.slice A145 t144.length c146,.slice A149 t148.length c150,.slice A153 t152.length c154,.slice A158 t157.length c159,.slice A162 t161.length c163,.slice A166 t165.length c167,.slice A170 t169.length c171,.bool t173,.map (some b9)])::xrow A145 c146 9 1 (t144.flatMap encS)::xrow A149 c150 3 1 (t148.flatMap (encI .i64))::xrr A153 c154 93 h156 95 4 enc_weirref14_Move t152::xrow A158 c159 4 1 (t157.flatMap encB)::xrow A162 c163 84 49 (t161.flatMap enc_api_Final)::xrow A166 c167 3 1 (t165.flatMap (encI .i64))::xrow A170 c171 88 3 (t169.flatMap enc_api_Pick)::xmap b9 (t143.map (kv Value.string (Value.int .i64)))::fs) w174),Runs Try.prog (fx 10) td68 (fill (mk 93 [(1,.int .i64 a1),(2,.pointer (some ⟨b1,0,none⟩)),(4,.pointer (some ⟨b5,0,none⟩)),(5,.pointer (some ⟨b14,0,none⟩)),(6,.int .i64 t138)]) l176) w174 R:=by
   refine weirref14_Lay.l0.partial_correctness y9 a0_1c1v a1 (fun t138 t139 t140 t141 t142 t143 t144 t148 t152 t157 t161 t165 t169 t173 e177 => e177 = v90 → ∀ (l176 : List Value) (A145 : Option Addr) (c146 : Nat) (A149 : Option Addr) (c150 : Nat) (A153 : Option Addr) (c154 : Nat) (h156 : Nat → Option Addr × Nat) (A158 : Option Addr) (c159 : Nat) (A162 : Option Addr) (c163 : Nat) (A166 : Option Addr) (c167 : Nat) (A170 : Option Addr) (c171 : Nat) (w174 : World) (hS175 : St w0 Z (xblk b1 32 ([.string y9,.func (.func 28) #[] #[.pointer (some ⟨ba0_1c0,0,none⟩),.pointer (some ⟨ba0_1c1,0,none⟩)],.func (.func 31) #[] #[.pointer (some ⟨ba0_1c1,0,none⟩),.pointer (some ⟨ba0_1c0,0,none⟩)],.func (.func 32) #[] #[.pointer (some ⟨ba0_1c0,0,none⟩),.pointer (some ⟨ba0_1c1,0,none⟩)]])::xblk ba0_1c0 33 ([.pointer (some ⟨ba0_1c0v,0,none⟩)])::xblk ba0_1c0v 49 ([.map (some ba0_1c0vv_0),.map (some ba0_1c0vv_1),.map (some ba0_1c0vv_2),.bool t139])::xmap ba0_1c0vv_0 (t140.map (kv Value.string (Value.int .i64)))::xmap ba0_1c0vv_1 (t141.map (kv Value.string (Value.int .i64)))::xmap ba0_1c0vv_2 (t142.map (kv Value.string (Value.int .i64)))::xblk ba0_1c1 26 ([.slice Aa0_1c1v_0 a0_1c1v.Next.length ca0_1c1v_0,.slice Aa0_1c1v_1 a0_1c1v.End.length ca0_1c1v_1,.slice Aa0_1c1v_2 a0_1c1v.Value.length ca0_1c1v_2,.int .i64 a0_1c1v.Start])::xblk b5 43 ([.slice none 0 0,.slice none 0 0,.slice none 0 0,.slice none 0 0,.slice none 0 0,.slice none 0 0,.slice none 0 0,.bool false,.map none])::xblk b14 43 ([.slice A145 t144.length c146,.slice A149 t148.length c150,.slice A153 t152.length c154,.slice A158 t157.length c159,.slice A162 t161.length c163,.slice A166 t165.length c167,.slice A170 t169.length c171,.bool t173,.map (some b9)])::xrow A145 c146 9 1 (t144.flatMap encS)::xrow A149 c150 3 1 (t148.flatMap (encI .i64))::xrr A153 c154 93 h156 95 4 enc_weirref14_Move t152::xrow A158 c159 4 1 (t157.flatMap encB)::xrow A162 c163 84 49 (t161.flatMap enc_api_Final)::xrow A166 c167 3 1 (t165.flatMap (encI .i64))::xrow A170 c171 88 3 (t169.flatMap enc_api_Pick)::xmap b9 (t143.map (kv Value.string (Value.int .i64)))::fs) w174),Runs Try.prog (fx 10) td68 (fill (mk 93 [(1,.int .i64 a1),(2,.pointer (some ⟨b1,0,none⟩)),(4,.pointer (some ⟨b5,0,none⟩)),(5,.pointer (some ⟨b14,0,none⟩)),(6,.int .i64 t138)]) l176) w174 R) ?_
   intro rec181 ih180 t138 t139 t140 t141 t142 t143 t144 t148 t152 t157 t161 t165 t169 t173 e177 hb179 he178 l176 A145 c146 A149 c150 A153 c154 h156 A158 c159 A162 c163 A166 c167 A170 c171 w174 hS175
   refine sR 5 (.inRegion (opsOf p10_10) [2,3,4]::.code p10_11::.code (cd10 [1,1,1,0,1,0,0,1])::td67) ?_
   refine rL1 36 (.tmp 21) 0 (hS175.blk 8 rfl) ?_
   refine sI 2 (.inRegion (opsOf p10_10) []::.code p10_11::.code (cd10 [1,1,1,0,1,0,0,1])::td67) 24 hb179 (fun hp185 => ?_) fun hp580 => ?_
   ·refine sR 6 (.code p10_13::.code (cd10 [1,1,1,0,1,0,0,1,0,0,1])::td70) ?_
    refine r_drawn3 (C:=St w0 Z (xblk b1 32 ([.string y9,.func (.func 28) #[] #[.pointer (some ⟨ba0_1c0,0,none⟩),.pointer (some ⟨ba0_1c1,0,none⟩)],.func (.func 31) #[] #[.pointer (some ⟨ba0_1c1,0,none⟩),.pointer (some ⟨ba0_1c0,0,none⟩)],.func (.func 32) #[] #[.pointer (some ⟨ba0_1c0,0,none⟩),.pointer (some ⟨ba0_1c1,0,none⟩)]])::xblk ba0_1c0 33 ([.pointer (some ⟨ba0_1c0v,0,none⟩)])::xblk ba0_1c0v 49 ([.map (some ba0_1c0vv_0),.map (some ba0_1c0vv_1),.map (some ba0_1c0vv_2),.bool t139])::xmap ba0_1c0vv_0 (t140.map (kv Value.string (Value.int .i64)))::xmap ba0_1c0vv_1 (t141.map (kv Value.string (Value.int .i64)))::xmap ba0_1c0vv_2 (t142.map (kv Value.string (Value.int .i64)))::xblk ba0_1c1 26 ([.slice Aa0_1c1v_0 a0_1c1v.Next.length ca0_1c1v_0,.slice Aa0_1c1v_1 a0_1c1v.End.length ca0_1c1v_1,.slice Aa0_1c1v_2 a0_1c1v.Value.length ca0_1c1v_2,.int .i64 a0_1c1v.Start])::xblk b5 43 ([.slice none 0 0,.slice none 0 0,.slice none 0 0,.slice none 0 0,.slice none 0 0,.slice none 0 0,.slice none 0 0,.bool false,.map none])::xblk b14 43 ([.slice A145 t144.length c146,.slice A149 t148.length c150,.slice A153 t152.length c154,.slice A158 t157.length c159,.slice A162 t161.length c163,.slice A166 t165.length c167,.slice A170 t169.length c171,.bool t173,.map (some b9)])::xrow A145 c146 9 1 (t144.flatMap encS)::xrow A149 c150 3 1 (t148.flatMap (encI .i64))::xrr A153 c154 93 h156 95 4 enc_weirref14_Move t152::xrow A158 c159 4 1 (t157.flatMap encB)::xrow A162 c163 84 49 (t161.flatMap enc_api_Final)::xrow A166 c167 3 1 (t165.flatMap (encI .i64))::xrow A170 c171 88 3 (t169.flatMap enc_api_Pick)::xmap b9 (t143.map (kv Value.string (Value.int .i64)))::fs)) (c:=p10_13) (id:=6) (by kernel_rfl) (by kernel_rfl) 7 (Nat.le_of_ble_eq_true (by kernel_rfl)) (by kernel_rfl) (by kernel_rfl) (by kernel_rfl) (is:=[0,1,2,3,4,5,6]) (rest:=[7,8]) (by kernel_rfl) (by kernel_rfl) hS175.drew ?_
    refine qR 1 (rg 1 6) ?_
    refine qL1 28 (.tmp 27) 1 (fun w hC => (hC.blk 0 rfl)) ?_
    refine qR 1 (rg 3 4) ?_
    refine qL1 36 (.tmp 29) 0 (fun w hC => (hC.blk 8 rfl)) ?_
    refine qR 1 [5,6] ?_
    obtain ⟨g186,hp187⟩:=ite_some hp185
    obtain ⟨b188,p189,hA190,-⟩:=(hS175.row 9 rfl).at_ len_encS (by omega) g186.1 g186.2
    refine q_indexAddr (c:=(hd p10_13 7)) (i:=5) (d:=(some 32)) (ty:=0) (t:=36) (e:=9) (n:=t144.length) (cp:=c146) (sz:=1) (kk:=.i64) (x:=(.tmp 30)) (y:=(.tmp 31)) (b:=b188) (o':=p189) (j:=t138) (by kernel_rfl) (by kernel_rfl) (slv (by kernel_rfl) hA190) (by kernel_rfl) (by kernel_rfl) (by kernel_rfl) g186.1 g186.2 ?_
    refine qL1 9 (.tmp 32) 0 (fun w hC => ((hC.row 9 rfl).at2 hA190 len_encS (by omega) g186.1 g186.2)) ?_
    refine Qs.nil ?_
    intro w192 hS193
    obtain ⟨⟨t194,t195,t196⟩,hr199,hp200⟩:=bind_some' hp187
    try dsimp only at hp200
    have hS205:=hS193.pick6
    have hS206:=hS205.pick6
    have hS207:=hS206.pick6
    have hS208:=hS207.pick6
    have hS209:=hS208.pick6
    have hS210:=hS209.pick6
    refine rC (weirlaw14_Net__machine_1.ok hr199 hS210 ha0_1c1v_0 ha0_1c1v_1 ha0_1c1v_2) ?_
    rintro _ w211 ⟨Q197,Q198,rfl,hS212⟩
    refine ⟨_,rfl,?_⟩
    refine sR 8 td73 ?_
    obtain ⟨v213,hv214,hp215⟩:=bind_some' hp200
    have J252 : ∀ (t216 : Bool) (t217 t218 : List (ByteArray × Int)) (t219 : List ByteArray) (t223 : List Int) (t227 : List (List weirref14_Move)) (t232 : List Bool) (t236 : List api_Final) (t240 : List Int) (t244 : List api_Pick) (t248 : Bool) (t249 : List (ByteArray × Int)) (he254 : (t216,t217,t218,t219,t223,t227,t232,t236,t240,t244,t248,t249) = v213) (l253 : List Value) (A220 : Option Addr) (c221 : Nat) (A224 : Option Addr) (c225 : Nat) (A228 : Option Addr) (c229 : Nat) (h231 : Nat → Option Addr × Nat) (A233 : Option Addr) (c234 : Nat) (A237 : Option Addr) (c238 : Nat) (A241 : Option Addr) (c242 : Nat) (A245 : Option Addr) (c246 : Nat) (w250 : World) (hS251 : St w0 Z (xblk b1 32 ([.string y9,.func (.func 28) #[] #[.pointer (some ⟨ba0_1c0,0,none⟩),.pointer (some ⟨ba0_1c1,0,none⟩)],.func (.func 31) #[] #[.pointer (some ⟨ba0_1c1,0,none⟩),.pointer (some ⟨ba0_1c0,0,none⟩)],.func (.func 32) #[] #[.pointer (some ⟨ba0_1c0,0,none⟩),.pointer (some ⟨ba0_1c1,0,none⟩)]])::xblk ba0_1c0 33 ([.pointer (some ⟨ba0_1c0v,0,none⟩)])::xblk ba0_1c0v 49 ([.map (some ba0_1c0vv_0),.map (some ba0_1c0vv_1),.map (some ba0_1c0vv_2),.bool t216])::xmap ba0_1c0vv_0 (t196.map (kv Value.string (Value.int .i64)))::xmap ba0_1c0vv_1 (t217.map (kv Value.string (Value.int .i64)))::xmap ba0_1c0vv_2 (t218.map (kv Value.string (Value.int .i64)))::xblk ba0_1c1 26 ([.slice Aa0_1c1v_0 a0_1c1v.Next.length ca0_1c1v_0,.slice Aa0_1c1v_1 a0_1c1v.End.length ca0_1c1v_1,.slice Aa0_1c1v_2 a0_1c1v.Value.length ca0_1c1v_2,.int .i64 a0_1c1v.Start])::xblk b5 43 ([.slice none 0 0,.slice none 0 0,.slice none 0 0,.slice none 0 0,.slice none 0 0,.slice none 0 0,.slice none 0 0,.bool false,.map none])::xblk b14 43 ([.slice A220 t219.length c221,.slice A224 t223.length c225,.slice A228 t227.length c229,.slice A233 t232.length c234,.slice A237 t236.length c238,.slice A241 t240.length c242,.slice A245 t244.length c246,.bool t248,.map (some b9)])::xrow A220 c221 9 1 (t219.flatMap encS)::xrow A224 c225 3 1 (t223.flatMap (encI .i64))::xrr A228 c229 93 h231 95 4 enc_weirref14_Move t227::xrow A233 c234 4 1 (t232.flatMap encB)::xrow A237 c238 84 49 (t236.flatMap enc_api_Final)::xrow A241 c242 3 1 (t240.flatMap (encI .i64))::xrow A245 c246 88 3 (t244.flatMap enc_api_Pick)::xmap b9 (t249.map (kv Value.string (Value.int .i64)))::fs) w250),Runs Try.prog (fx 10) td70 (fill (mk 93 [(1,.int .i64 a1),(2,.pointer (some ⟨b1,0,none⟩)),(4,.pointer (some ⟨b5,0,none⟩)),(5,.pointer (some ⟨b14,0,none⟩)),(6,.int .i64 t138)]) l253) w250 R:=by
     intro t216 t217 t218 t219 t223 t227 t232 t236 t240 t244 t248 t249 he254 l253 A220 c221 A224 c225 A228 c229 h231 A233 c234 A237 c238 A241 c242 A245 c246 w250 hS251
     subst he254
     try dsimp only at hp215
     refine sR 6 td67 ?_
     refine sR 1 td68 ?_
     exact rF _ (ih180 (IntKind.i64.wrap (t138 + 1)) t216 t196 t217 t218 t249 t219 t223 t227 t232 t236 t240 t244 t248 _ hp215 he178 _ A220 c221 A224 c225 A228 c229 (h231) A233 c234 A237 c238 A241 c242 A245 c246 _ hS251)
    have L298 : ∀ (t255 : Int) (t256 : Bool) (t257 t258 t259 : List (ByteArray × Int)) (t260 : List ByteArray) (t264 : List Int) (t268 : List (List weirref14_Move)) (t273 : List Bool) (t277 : List api_Final) (t281 : List Int) (t285 : List api_Pick) (t289 : Bool) (e293 : (Bool × (List (ByteArray × Int)) × (List (ByteArray × Int)) × (List ByteArray) × (List Int) × (List (List weirref14_Move)) × (List Bool) × (List api_Final) × (List Int) × (List api_Pick) × Bool × (List (ByteArray × Int)))),weirref14_Lay.l1 y9 a0_1c1v a1 t138 t194 t196 t255 t256 t257 t258 t259 t260 t264 t268 t273 t277 t281 t285 t289 = some e293 → e293 = v213 → ∀ (l292 : List Value) (A261 : Option Addr) (c262 : Nat) (A265 : Option Addr) (c266 : Nat) (A269 : Option Addr) (c270 : Nat) (h272 : Nat → Option Addr × Nat) (A274 : Option Addr) (c275 : Nat) (A278 : Option Addr) (c279 : Nat) (A282 : Option Addr) (c283 : Nat) (A286 : Option Addr) (c287 : Nat) (w290 : World) (hS291 : St w0 Z (xblk b1 32 ([.string y9,.func (.func 28) #[] #[.pointer (some ⟨ba0_1c0,0,none⟩),.pointer (some ⟨ba0_1c1,0,none⟩)],.func (.func 31) #[] #[.pointer (some ⟨ba0_1c1,0,none⟩),.pointer (some ⟨ba0_1c0,0,none⟩)],.func (.func 32) #[] #[.pointer (some ⟨ba0_1c0,0,none⟩),.pointer (some ⟨ba0_1c1,0,none⟩)]])::xblk ba0_1c0 33 ([.pointer (some ⟨ba0_1c0v,0,none⟩)])::xblk ba0_1c0v 49 ([.map (some ba0_1c0vv_0),.map (some ba0_1c0vv_1),.map (some ba0_1c0vv_2),.bool t256])::xmap ba0_1c0vv_0 (t196.map (kv Value.string (Value.int .i64)))::xmap ba0_1c0vv_1 (t258.map (kv Value.string (Value.int .i64)))::xmap ba0_1c0vv_2 (t257.map (kv Value.string (Value.int .i64)))::xblk ba0_1c1 26 ([.slice Aa0_1c1v_0 a0_1c1v.Next.length ca0_1c1v_0,.slice Aa0_1c1v_1 a0_1c1v.End.length ca0_1c1v_1,.slice Aa0_1c1v_2 a0_1c1v.Value.length ca0_1c1v_2,.int .i64 a0_1c1v.Start])::xblk b5 43 ([.slice none 0 0,.slice none 0 0,.slice none 0 0,.slice none 0 0,.slice none 0 0,.slice none 0 0,.slice none 0 0,.bool false,.map none])::xblk b14 43 ([.slice A261 t260.length c262,.slice A265 t264.length c266,.slice A269 t268.length c270,.slice A274 t273.length c275,.slice A278 t277.length c279,.slice A282 t281.length c283,.slice A286 t285.length c287,.bool t289,.map (some b9)])::xrow A261 c262 9 1 (t260.flatMap encS)::xrow A265 c266 3 1 (t264.flatMap (encI .i64))::xrr A269 c270 93 h272 95 4 enc_weirref14_Move t268::xrow A274 c275 4 1 (t273.flatMap encB)::xrow A278 c279 84 49 (t277.flatMap enc_api_Final)::xrow A282 c283 3 1 (t281.flatMap (encI .i64))::xrow A286 c287 88 3 (t285.flatMap enc_api_Pick)::xmap b9 (t259.map (kv Value.string (Value.int .i64)))::xrow Q197 Q198 88 3 (t194.flatMap enc_api_Pick)::fs) w290),Runs Try.prog (fx 10) td73 (fill (mk 93 [(1,.int .i64 a1),(2,.pointer (some ⟨b1,0,none⟩)),(4,.pointer (some ⟨b5,0,none⟩)),(5,.pointer (some ⟨b14,0,none⟩)),(6,.int .i64 t138),(7,.slice Q197 t194.length Q198),(8,.int .i64 t255)]) l292) w290 R:=by
     refine weirref14_Lay.l1.partial_correctness y9 a0_1c1v a1 t138 t194 t196 (fun t255 t256 t257 t258 t259 t260 t264 t268 t273 t277 t281 t285 t289 e293 => e293 = v213 → ∀ (l292 : List Value) (A261 : Option Addr) (c262 : Nat) (A265 : Option Addr) (c266 : Nat) (A269 : Option Addr) (c270 : Nat) (h272 : Nat → Option Addr × Nat) (A274 : Option Addr) (c275 : Nat) (A278 : Option Addr) (c279 : Nat) (A282 : Option Addr) (c283 : Nat) (A286 : Option Addr) (c287 : Nat) (w290 : World) (hS291 : St w0 Z (xblk b1 32 ([.string y9,.func (.func 28) #[] #[.pointer (some ⟨ba0_1c0,0,none⟩),.pointer (some ⟨ba0_1c1,0,none⟩)],.func (.func 31) #[] #[.pointer (some ⟨ba0_1c1,0,none⟩),.pointer (some ⟨ba0_1c0,0,none⟩)],.func (.func 32) #[] #[.pointer (some ⟨ba0_1c0,0,none⟩),.pointer (some ⟨ba0_1c1,0,none⟩)]])::xblk ba0_1c0 33 ([.pointer (some ⟨ba0_1c0v,0,none⟩)])::xblk ba0_1c0v 49 ([.map (some ba0_1c0vv_0),.map (some ba0_1c0vv_1),.map (some ba0_1c0vv_2),.bool t256])::xmap ba0_1c0vv_0 (t196.map (kv Value.string (Value.int .i64)))::xmap ba0_1c0vv_1 (t258.map (kv Value.string (Value.int .i64)))::xmap ba0_1c0vv_2 (t257.map (kv Value.string (Value.int .i64)))::xblk ba0_1c1 26 ([.slice Aa0_1c1v_0 a0_1c1v.Next.length ca0_1c1v_0,.slice Aa0_1c1v_1 a0_1c1v.End.length ca0_1c1v_1,.slice Aa0_1c1v_2 a0_1c1v.Value.length ca0_1c1v_2,.int .i64 a0_1c1v.Start])::xblk b5 43 ([.slice none 0 0,.slice none 0 0,.slice none 0 0,.slice none 0 0,.slice none 0 0,.slice none 0 0,.slice none 0 0,.bool false,.map none])::xblk b14 43 ([.slice A261 t260.length c262,.slice A265 t264.length c266,.slice A269 t268.length c270,.slice A274 t273.length c275,.slice A278 t277.length c279,.slice A282 t281.length c283,.slice A286 t285.length c287,.bool t289,.map (some b9)])::xrow A261 c262 9 1 (t260.flatMap encS)::xrow A265 c266 3 1 (t264.flatMap (encI .i64))::xrr A269 c270 93 h272 95 4 enc_weirref14_Move t268::xrow A274 c275 4 1 (t273.flatMap encB)::xrow A278 c279 84 49 (t277.flatMap enc_api_Final)::xrow A282 c283 3 1 (t281.flatMap (encI .i64))::xrow A286 c287 88 3 (t285.flatMap enc_api_Pick)::xmap b9 (t259.map (kv Value.string (Value.int .i64)))::xrow Q197 Q198 88 3 (t194.flatMap enc_api_Pick)::fs) w290),Runs Try.prog (fx 10) td73 (fill (mk 93 [(1,.int .i64 a1),(2,.pointer (some ⟨b1,0,none⟩)),(4,.pointer (some ⟨b5,0,none⟩)),(5,.pointer (some ⟨b14,0,none⟩)),(6,.int .i64 t138),(7,.slice Q197 t194.length Q198),(8,.int .i64 t255)]) l292) w290 R) ?_
     intro rec297 ih296 t255 t256 t257 t258 t259 t260 t264 t268 t273 t277 t281 t285 t289 e293 hb295 he294 l292 A261 c262 A265 c266 A269 c270 h272 A274 c275 A278 c279 A282 c283 A286 c287 w290 hS291
     refine sI 7 (.inRegion (opsOf (cd10 [1,1,1,0,1,0,0,1,0,0,1,1,0,0,0,0])) []::.code (cd10 [1,1,1,0,1,0,0,1,0,0,1,1,0,0,0,1])::.code (cd10 [1,1,1,0,1,0,0,1,0,0,1,1,0,0,1])::td72) 38 hb295 (fun hp301 => ?_) fun hp560 => ?_
     ·refine sR 6 (.code p10_20::.code (cd10 [1,1,1,0,1,0,0,1,0,0,1,1,0,0,1,0,0,1])::td75) ?_
      have hS302:=hS291.pick17
      have hS303:=hS302.pick10
      have hS304:=hS303.pick10
      have hS305:=hS304.pick9
      have hS306:=hS305.pick9
      have hS307:=hS306.pick9
      have hS308:=hS307.pick9
      have hS309:=hS308.pick9
      have hS310:=hS309.pick9
      have hS311:=hS310.pick9
      generalize hg313 : (xblk b5 43 ([.slice none 0 0,.slice none 0 0,.slice none 0 0,.slice none 0 0,.slice none 0 0,.slice none 0 0,.slice none 0 0,.bool false,.map none])::xrow A265 c266 3 1 (t264.flatMap (encI .i64))::xrr A269 c270 93 h272 95 4 enc_weirref14_Move t268::xrow A274 c275 4 1 (t273.flatMap encB)::xrow A278 c279 84 49 (t277.flatMap enc_api_Final)::xrow A282 c283 3 1 (t281.flatMap (encI .i64))::xrow A286 c287 88 3 (t285.flatMap enc_api_Pick)::xmap b9 (t259.map (kv Value.string (Value.int .i64)))::fs) = gs312 at hS311
      obtain ⟨g314,hp315⟩:=ite_some hp301
      obtain ⟨b316,p317,hA318,-⟩:=(hS311.row 8 rfl).at_ len_encS (by omega) g314.1 g314.2
      obtain ⟨g320,hp321⟩:=ite_some hp315
      obtain ⟨b322,p323,hA324,-⟩:=(hS311.row 9 rfl).at_ len_api_Pick (by omega) g320.1 g320.2
      obtain ⟨⟨t326,t327,t328,t329⟩,hr330,hp331⟩:=bind_some' hp321
      try dsimp only at hp331
      refine r_drawnP (S:=Option Unit) (dn:=(fun (st : Option Unit) k => [st.isSome].getD k true)) (C:=(fun st w' => match st with | none => St w0 Z (xblk b1 32 ([.string y9,.func (.func 28) #[] #[.pointer (some ⟨ba0_1c0,0,none⟩),.pointer (some ⟨ba0_1c1,0,none⟩)],.func (.func 31) #[] #[.pointer (some ⟨ba0_1c1,0,none⟩),.pointer (some ⟨ba0_1c0,0,none⟩)],.func (.func 32) #[] #[.pointer (some ⟨ba0_1c0,0,none⟩),.pointer (some ⟨ba0_1c1,0,none⟩)]])::xblk ba0_1c0 33 ([.pointer (some ⟨ba0_1c0v,0,none⟩)])::xblk ba0_1c0v 49 ([.map (some ba0_1c0vv_0),.map (some ba0_1c0vv_1),.map (some ba0_1c0vv_2),.bool t256])::xmap ba0_1c0vv_0 (t196.map (kv Value.string (Value.int .i64)))::xmap ba0_1c0vv_1 (t258.map (kv Value.string (Value.int .i64)))::xmap ba0_1c0vv_2 (t257.map (kv Value.string (Value.int .i64)))::xblk ba0_1c1 26 ([.slice Aa0_1c1v_0 a0_1c1v.Next.length ca0_1c1v_0,.slice Aa0_1c1v_1 a0_1c1v.End.length ca0_1c1v_1,.slice Aa0_1c1v_2 a0_1c1v.Value.length ca0_1c1v_2,.int .i64 a0_1c1v.Start])::xblk b14 43 ([.slice A261 t260.length c262,.slice A265 t264.length c266,.slice A269 t268.length c270,.slice A274 t273.length c275,.slice A278 t277.length c279,.slice A282 t281.length c283,.slice A286 t285.length c287,.bool t289,.map (some b9)])::xrow A261 c262 9 1 (t260.flatMap encS)::xrow Q197 Q198 88 3 (t194.flatMap enc_api_Pick)::gs312) w' | some x332 => St w0 Z (xblk b1 32 ([.string y9,.func (.func 28) #[] #[.pointer (some ⟨ba0_1c0,0,none⟩),.pointer (some ⟨ba0_1c1,0,none⟩)],.func (.func 31) #[] #[.pointer (some ⟨ba0_1c1,0,none⟩),.pointer (some ⟨ba0_1c0,0,none⟩)],.func (.func 32) #[] #[.pointer (some ⟨ba0_1c0,0,none⟩),.pointer (some ⟨ba0_1c1,0,none⟩)]])::xblk ba0_1c0 33 ([.pointer (some ⟨ba0_1c0v,0,none⟩)])::xblk ba0_1c0v 49 ([.map (some ba0_1c0vv_0),.map (some ba0_1c0vv_1),.map (some ba0_1c0vv_2),.bool t328])::xmap ba0_1c0vv_0 (t196.map (kv Value.string (Value.int .i64)))::xmap ba0_1c0vv_1 (t258.map (kv Value.string (Value.int .i64)))::xmap ba0_1c0vv_2 (t329.map (kv Value.string (Value.int .i64)))::xblk ba0_1c1 26 ([.slice Aa0_1c1v_0 a0_1c1v.Next.length ca0_1c1v_0,.slice Aa0_1c1v_1 a0_1c1v.End.length ca0_1c1v_1,.slice Aa0_1c1v_2 a0_1c1v.Value.length ca0_1c1v_2,.int .i64 a0_1c1v.Start])::xblk b14 43 ([.slice A261 t260.length c262,.slice A265 t264.length c266,.slice A269 t268.length c270,.slice A274 t273.length c275,.slice A278 t277.length c279,.slice A282 t281.length c283,.slice A286 t285.length c287,.bool t289,.map (some b9)])::xrow A261 c262 9 1 (t260.flatMap encS)::xrow Q197 Q198 88 3 (t194.flatMap enc_api_Pick)::gs312) w')) (v:=(fun st => match st with | none => [.pointer (some ⟨b1,2,none⟩),.func (.func 31) #[] #[.pointer (some ⟨ba0_1c1,0,none⟩),.pointer (some ⟨ba0_1c0,0,none⟩)],.pointer (some ⟨b14,0,none⟩),.slice A261 t260.length c262,.int .i64 t138,.pointer (some ⟨b316,p317 + t138.toNat * 1,none⟩),.string (gt t260 t138),.slice Q197 t194.length Q198,.int .i64 t255,.pointer (some ⟨b322,p323 + t255.toNat * 3,none⟩),.agg (enc_api_Pick (gt t194 t255)).toArray,undef,undef,undef,undef,undef,undef] | some x332 => [.pointer (some ⟨b1,2,none⟩),.func (.func 31) #[] #[.pointer (some ⟨ba0_1c1,0,none⟩),.pointer (some ⟨ba0_1c0,0,none⟩)],.pointer (some ⟨b14,0,none⟩),.slice A261 t260.length c262,.int .i64 t138,.pointer (some ⟨b316,p317 + t138.toNat * 1,none⟩),.string (gt t260 t138),.slice Q197 t194.length Q198,.int .i64 t255,.pointer (some ⟨b322,p323 + t255.toNat * 3,none⟩),.agg (enc_api_Pick (gt t194 t255)).toArray,.tuple #[.string t326,.bool t327],.tuple #[.string t326,.bool t327],.string t326,.bool t327,.string t326,.bool t327])) (c:=p10_20) (id:=10) none 0 17 [11] [[],[],[],[],[],[],[],[],[],[],[],[],[0],[0],[0],[0],[0]] [[],[0],[],[],[],[],[0],[],[],[],[0],[],[],[],[],[],[]] [] [true,true,true,true,true,true,true,true,true,true,true,true,true,true,true,true,true] (by kernel_rfl) (by kernel_rfl) (by kernel_rfl) (by kernel_rfl) (by kernel_rfl) (by kernel_rfl) (by kernel_rfl) (by kernel_rfl) (by kernel_rfl) (fun k hk => match k,hk with | 0,_ => rfl | k + 1,hk => absurd hk (by simp)) hS311.drew ?_ (fun k hk => match k,hk with | 0,_ => rfl | k + 1,hk => absurd hk (by simp)) ?_ ?_ ?_
      ·intro i hi st w hC hd
       match i,hi with
       | 0,_ => (show _ = _; kernel_rfl)
       | 1,_ => (show _ = _; kernel_rfl)
       | 2,_ => (show _ = _; kernel_rfl)
       | 3,_ => (show _ = _; kernel_rfl)
       | 4,_ => (show _ = _; kernel_rfl)
       | 5,_ => (show _ = _; kernel_rfl)
       | 6,_ => (show _ = _; kernel_rfl)
       | 7,_ => (show _ = _; kernel_rfl)
       | 8,_ => (show _ = _; kernel_rfl)
       | 9,_ => (show _ = _; kernel_rfl)
       | 10,_ => (show _ = _; kernel_rfl)
       | 11,_ => (show _ = _; kernel_rfl)
       | 12,_ => (show _ = _; kernel_rfl)
       | 13,_ => (show _ = _; kernel_rfl)
       | 14,_ => (show _ = _; kernel_rfl)
       | 15,_ => (show _ = _; kernel_rfl)
       | 16,_ => (show _ = _; kernel_rfl)
       | i + 17,hi => exact absurd hi (by omega)
      ·intro i hi he st w hC hd hu
       match i,hi,he with
       | 0,_,_ =>
        rcases st with _ | x332
        ·dsimp only at hC
         exact dG (.pointer (some ⟨b1,2,none⟩)) hC
        ·dsimp only at hC
         exact dG (.pointer (some ⟨b1,2,none⟩)) hC
       | 1,_,_ =>
        rcases st with _ | x332
        ·dsimp only at hC
         exact ⟨fun _ => does_run (x_load (t:=29) (x:=(.tmp 42)) (p:=⟨b1,2,none⟩) (v:=.func (.func 31) #[] #[.pointer (some ⟨ba0_1c1,0,none⟩),.pointer (some ⟨ba0_1c0,0,none⟩)]) (by kernel_rfl) (loads_at 2 (hC.blk 0 rfl) (by kernel_rfl) (by kernel_rfl)) (by kernel_rfl)) rfl hC,fun h => absurd h (by decide)⟩
        ·exact Bool.noConfusion (hu 0 (by decide))
       | 2,_,_ =>
        rcases st with _ | x332
        ·dsimp only at hC
         exact dG (.pointer (some ⟨b14,0,none⟩)) hC
        ·dsimp only at hC
         exact dG (.pointer (some ⟨b14,0,none⟩)) hC
       | 3,_,_ =>
        rcases st with _ | x332
        ·dsimp only at hC
         exact ⟨fun _ => does_run (x_load (t:=36) (x:=(.tmp 44)) (p:=⟨b14,0,none⟩) (v:=.slice A261 t260.length c262) (by kernel_rfl) (loads_at 0 (hC.blk 7 rfl) (by kernel_rfl) (by kernel_rfl)) (by kernel_rfl)) rfl hC,fun h => absurd h (by decide)⟩
        ·dsimp only at hC
         exact ⟨fun _ => does_run (x_load (t:=36) (x:=(.tmp 44)) (p:=⟨b14,0,none⟩) (v:=.slice A261 t260.length c262) (by kernel_rfl) (loads_at 0 (hC.blk 7 rfl) (by kernel_rfl) (by kernel_rfl)) (by kernel_rfl)) rfl hC,fun h => absurd h (by decide)⟩
       | 4,_,_ =>
        rcases st with _ | x332
        ·dsimp only at hC
         exact dG (.int .i64 t138) hC
        ·dsimp only at hC
         exact dG (.int .i64 t138) hC
       | 5,_,_ =>
        rcases st with _ | x332
        ·dsimp only at hC
         exact ⟨fun _ => does_run (x_indexAddr (t:=36) (e:=9) (x:=(.tmp 45)) (y:=(.tmp 46)) (b:=b316) (o':=p317) (n:=t260.length) (cp:=c262) (sz:=1) (kk:=.i64) (j:=t138) (slv (by kernel_rfl) hA318) (by kernel_rfl) (by kernel_rfl) (by kernel_rfl) g314.1 g314.2 (by kernel_rfl)) rfl hC,fun h => absurd h (by decide)⟩
        ·dsimp only at hC
         exact ⟨fun _ => does_run (x_indexAddr (t:=36) (e:=9) (x:=(.tmp 45)) (y:=(.tmp 46)) (b:=b316) (o':=p317) (n:=t260.length) (cp:=c262) (sz:=1) (kk:=.i64) (j:=t138) (slv (by kernel_rfl) hA318) (by kernel_rfl) (by kernel_rfl) (by kernel_rfl) g314.1 g314.2 (by kernel_rfl)) rfl hC,fun h => absurd h (by decide)⟩
       | 6,_,_ =>
        rcases st with _ | x332
        ·dsimp only at hC
         exact ⟨fun _ => does_run (x_load (t:=9) (x:=(.tmp 47)) (p:=⟨b316,p317 + t138.toNat * 1,none⟩) (v:=.string (gt t260 t138)) (by kernel_rfl) (loads_at 0 ((hC.row 8 rfl).at2 hA318 len_encS (by omega) g314.1 g314.2) (by kernel_rfl) (by kernel_rfl)) (by kernel_rfl)) rfl hC,fun h => absurd h (by decide)⟩
        ·exact Bool.noConfusion (hu 0 (by decide))
       | 7,_,_ =>
        rcases st with _ | x332
        ·dsimp only at hC
         exact dG (.slice Q197 t194.length Q198) hC
        ·dsimp only at hC
         exact dG (.slice Q197 t194.length Q198) hC
       | 8,_,_ =>
        rcases st with _ | x332
        ·dsimp only at hC
         exact dG (.int .i64 t255) hC
        ·dsimp only at hC
         exact dG (.int .i64 t255) hC
       | 9,_,_ =>
        rcases st with _ | x332
        ·dsimp only at hC
         exact ⟨fun _ => does_run (x_indexAddr (t:=40) (e:=88) (x:=(.tmp 49)) (y:=(.tmp 50)) (b:=b322) (o':=p323) (n:=t194.length) (cp:=Q198) (sz:=3) (kk:=.i64) (j:=t255) (slv (by kernel_rfl) hA324) (by kernel_rfl) (by kernel_rfl) (by kernel_rfl) g320.1 g320.2 (by kernel_rfl)) rfl hC,fun h => absurd h (by decide)⟩
        ·dsimp only at hC
         exact ⟨fun _ => does_run (x_indexAddr (t:=40) (e:=88) (x:=(.tmp 49)) (y:=(.tmp 50)) (b:=b322) (o':=p323) (n:=t194.length) (cp:=Q198) (sz:=3) (kk:=.i64) (j:=t255) (slv (by kernel_rfl) hA324) (by kernel_rfl) (by kernel_rfl) (by kernel_rfl) g320.1 g320.2 (by kernel_rfl)) rfl hC,fun h => absurd h (by decide)⟩
       | 10,_,_ =>
        rcases st with _ | x332
        ·dsimp only at hC
         exact ⟨fun _ => does_run (x_load (t:=88) (x:=(.tmp 51)) (p:=⟨b322,p323 + t255.toNat * 3,none⟩) (v:=.agg (enc_api_Pick (gt t194 t255)).toArray) (by kernel_rfl) (loads_agg ((hC.row 9 rfl).at2 hA324 len_api_Pick (by omega) g320.1 g320.2) (by kernel_rfl) (by kernel_rfl)) (by kernel_rfl)) rfl hC,fun h => absurd h (by decide)⟩
        ·exact Bool.noConfusion (hu 0 (by decide))
       | 11,_,he => exact absurd he (by decide)
       | 12,_,_ =>
        rcases st with _ | x332
        ·exact Bool.noConfusion (hd 0 (by decide))
        ·dsimp only at hC
         exact dG (.tuple #[.string t326,.bool t327]) hC
       | 13,_,_ =>
        rcases st with _ | x332
        ·exact Bool.noConfusion (hd 0 (by decide))
        ·dsimp only at hC
         exact dG (.string t326) hC
       | 14,_,_ =>
        rcases st with _ | x332
        ·exact Bool.noConfusion (hd 0 (by decide))
        ·dsimp only at hC
         exact dG (.bool t327) hC
       | 15,_,_ =>
        rcases st with _ | x332
        ·exact Bool.noConfusion (hd 0 (by decide))
        ·dsimp only at hC
         exact dG (.string t326) hC
       | 16,_,_ =>
        rcases st with _ | x332
        ·exact Bool.noConfusion (hd 0 (by decide))
        ·dsimp only at hC
         exact dG (.bool t327) hC
       | i + 17,hi,_ => exact absurd hi (by omega)
      ·intro k hk st w hC hr hm
       match k,hk with
       | 0,_ =>
        rcases st with _ | x332
        ·dsimp only at hC
         have hS365:=hC.pick5
         have hS366:=hS365.pick5
         have hS367:=hS366.pick5
         have hS368:=hS367.pick5
         have hS369:=hS368.pick5
         have hS370:=hS369.pick6
         refine does_call (g:=31) (args:=#[.string (gt t260 t138),.agg (enc_api_Pick (gt t194 t255)).toArray,.pointer (some ⟨ba0_1c1,0,none⟩),.pointer (some ⟨ba0_1c0,0,none⟩)]) (by kernel_rfl) (weirlaw14_Net__machine_2.ok hr330 hS370 ha0_1c1v_0 ha0_1c1v_1 ha0_1c1v_2) ?_
         rintro e w2 ⟨rfl,h2⟩
         refine ⟨_,rfl,?_⟩
         have hS371:=h2.pick9
         have hS372:=hS371.pick9
         have hS373:=hS372.pick9
         have hS374:=hS373.pick3
         have hS375:=hS374.pick8
         have hS376:=hS375.pick8
         have hS377:=hS376.pick8
         have hS378:=hS377.pick8
         have hS379:=hS378.pick8
         have hS380:=hS379.pick9
         have h2:=hS380
         have h2:=h2.pick9
         have h2:=h2.pick9
         have h2:=h2.pick9
         have h2:=h2.pick9
         have h2:=h2.pick9
         have h2:=h2.pick9
         have h2:=h2.pick9
         have h2:=h2.pick9
         have h2:=h2.pick9
         have h2:=h2.pick9
         refine ⟨some (),rfl,?_,?_,.inr rfl,h2⟩
         ·intro m hne; match m,hne with
          | 0,hne => exact absurd rfl hne
          | m + 1,_ => exact rfl
         ·intro j hj; match j,hj with
          | 0,hj => exact rfl
          | 1,hj => exact rfl
          | 2,hj => exact rfl
          | 3,hj => exact rfl
          | 4,hj => exact rfl
          | 5,hj => exact rfl
          | 6,hj => exact rfl
          | 7,hj => exact rfl
          | 8,hj => exact rfl
          | 9,hj => exact rfl
          | 10,hj => exact rfl
          | 11,hj => exact absurd (by decide) hj
          | 12,hj => exact absurd (by decide) hj
          | 13,hj => exact absurd (by decide) hj
          | 14,hj => exact absurd (by decide) hj
          | 15,hj => exact absurd (by decide) hj
          | 16,hj => exact absurd (by decide) hj
          | j + 17,_ => exact rfl
        ·exact Bool.noConfusion hr
       | k + 1,hk => exact absurd hk (by simp)
      intro st384 w381 hS382 hr383
      rcases st384 with _ | x332
      ·exact Bool.noConfusion (hr383 0 (Nat.lt_of_sub_eq_succ rfl))
      replace hS382 : St w0 Z (xblk b1 32 ([.string y9,.func (.func 28) #[] #[.pointer (some ⟨ba0_1c0,0,none⟩),.pointer (some ⟨ba0_1c1,0,none⟩)],.func (.func 31) #[] #[.pointer (some ⟨ba0_1c1,0,none⟩),.pointer (some ⟨ba0_1c0,0,none⟩)],.func (.func 32) #[] #[.pointer (some ⟨ba0_1c0,0,none⟩),.pointer (some ⟨ba0_1c1,0,none⟩)]])::xblk ba0_1c0 33 ([.pointer (some ⟨ba0_1c0v,0,none⟩)])::xblk ba0_1c0v 49 ([.map (some ba0_1c0vv_0),.map (some ba0_1c0vv_1),.map (some ba0_1c0vv_2),.bool t328])::xmap ba0_1c0vv_0 (t196.map (kv Value.string (Value.int .i64)))::xmap ba0_1c0vv_1 (t258.map (kv Value.string (Value.int .i64)))::xmap ba0_1c0vv_2 (t329.map (kv Value.string (Value.int .i64)))::xblk ba0_1c1 26 ([.slice Aa0_1c1v_0 a0_1c1v.Next.length ca0_1c1v_0,.slice Aa0_1c1v_1 a0_1c1v.End.length ca0_1c1v_1,.slice Aa0_1c1v_2 a0_1c1v.Value.length ca0_1c1v_2,.int .i64 a0_1c1v.Start])::xblk b14 43 ([.slice A261 t260.length c262,.slice A265 t264.length c266,.slice A269 t268.length c270,.slice A274 t273.length c275,.slice A278 t277.length c279,.slice A282 t281.length c283,.slice A286 t285.length c287,.bool t289,.map (some b9)])::xrow A261 c262 9 1 (t260.flatMap encS)::xrow Q197 Q198 88 3 (t194.flatMap enc_api_Pick)::gs312) w381:=hS382
      subst hg313
      refine sI 5 (.inRegion (opsOf (cd10 [1,1,1,0,1,0,0,1,0,0,1,1,0,0,1,0,0,1,0,0])) []::.code (cd10 [1,1,1,0,1,0,0,1,0,0,1,1,0,0,1,0,0,1,0,1])::.code (cd10 [1,1,1,0,1,0,0,1,0,0,1,1,0,0,1,0,0,1,1])::td75) 57 hp331 (fun hp387 => ?_) fun hp406 => ?_
      ·refine sR 8 td72 ?_
       have hS388:=hS382.pick9
       have hS389:=hS388.pick17
       have hS390:=hS389.pick17
       have hS391:=hS390.pick17
       have hS392:=hS391.pick17
       have hS393:=hS392.pick17
       have hS394:=hS393.pick17
       have hS395:=hS394.pick17
       have hS396:=hS395.pick16
       have hS397:=hS396.pick16
       have hS398:=hS397.pick17
       have hS399:=hS398.pick17
       have hS400:=hS399.pick17
       have hS401:=hS400.pick17
       have hS402:=hS401.pick17
       have hS403:=hS402.pick17
       have hS404:=hS403.pick17
       have hS405:=hS404.pick17
       refine sR 1 td73 ?_
       exact rF _ (ih296 (IntKind.i64.wrap (t255 + 1)) t328 t329 (id t258) (id t259) (id t260) (id t264) (id t268) (id t273) (id t277) (id t281) (id t285) (id t289) _ hp387 he294 _ A261 c262 A265 c266 A269 c270 (h272) A274 c275 A278 c279 A282 c283 A286 c287 _ hS405)
      refine sR 4 (.code p10_26::.code (cd10 [1,1,1,0,1,0,0,1,0,0,1,1,0,0,1,0,0,1,1,1])::td75) ?_
      refine r_drawn3 (C:=St w0 Z (xblk b1 32 ([.string y9,.func (.func 28) #[] #[.pointer (some ⟨ba0_1c0,0,none⟩),.pointer (some ⟨ba0_1c1,0,none⟩)],.func (.func 31) #[] #[.pointer (some ⟨ba0_1c1,0,none⟩),.pointer (some ⟨ba0_1c0,0,none⟩)],.func (.func 32) #[] #[.pointer (some ⟨ba0_1c0,0,none⟩),.pointer (some ⟨ba0_1c1,0,none⟩)]])::xblk ba0_1c0 33 ([.pointer (some ⟨ba0_1c0v,0,none⟩)])::xblk ba0_1c0v 49 ([.map (some ba0_1c0vv_0),.map (some ba0_1c0vv_1),.map (some ba0_1c0vv_2),.bool t328])::xmap ba0_1c0vv_0 (t196.map (kv Value.string (Value.int .i64)))::xmap ba0_1c0vv_1 (t258.map (kv Value.string (Value.int .i64)))::xmap ba0_1c0vv_2 (t329.map (kv Value.string (Value.int .i64)))::xblk ba0_1c1 26 ([.slice Aa0_1c1v_0 a0_1c1v.Next.length ca0_1c1v_0,.slice Aa0_1c1v_1 a0_1c1v.End.length ca0_1c1v_1,.slice Aa0_1c1v_2 a0_1c1v.Value.length ca0_1c1v_2,.int .i64 a0_1c1v.Start])::xblk b14 43 ([.slice A261 t260.length c262,.slice A265 t264.length c266,.slice A269 t268.length c270,.slice A274 t273.length c275,.slice A278 t277.length c279,.slice A282 t281.length c283,.slice A286 t285.length c287,.bool t289,.map (some b9)])::xrow A261 c262 9 1 (t260.flatMap encS)::xrow Q197 Q198 88 3 (t194.flatMap enc_api_Pick)::xblk b5 43 ([.slice none 0 0,.slice none 0 0,.slice none 0 0,.slice none 0 0,.slice none 0 0,.slice none 0 0,.slice none 0 0,.bool false,.map none])::xrow A265 c266 3 1 (t264.flatMap (encI .i64))::xrr A269 c270 93 h272 95 4 enc_weirref14_Move t268::xrow A274 c275 4 1 (t273.flatMap encB)::xrow A278 c279 84 49 (t277.flatMap enc_api_Final)::xrow A282 c283 3 1 (t281.flatMap (encI .i64))::xrow A286 c287 88 3 (t285.flatMap enc_api_Pick)::xmap b9 (t259.map (kv Value.string (Value.int .i64)))::fs)) (c:=p10_26) (id:=12) (by kernel_rfl) (by kernel_rfl) 14 (Nat.le_of_ble_eq_true (by kernel_rfl)) (by kernel_rfl) (by kernel_rfl) (by kernel_rfl) (is:=[0,1,2,3,4,5,6,7,8,9,10,11,12,13]) (rest:=[14,15]) (by kernel_rfl) (by kernel_rfl) hS382.drew ?_
      refine qLa 32 (.tmp 2) (fun w hC => (hC.blk 0 rfl)) ?_
      refine qR 3 (rg 4 10) ?_
      refine qL1 37 (.tmp 61) 1 (fun w hC => (hC.blk 7 rfl)) ?_
      refine qR 1 (rg 6 8) ?_
      obtain ⟨g407,hp408⟩:=ite_some hp406
      obtain ⟨b409,p410,hA411,-⟩:=(hS382.row 11 rfl).at_ (len_encI .i64) (by omega) g407.1 g407.2
      refine q_indexAddr (c:=(hd p10_26 14)) (i:=6) (d:=(some 64)) (ty:=0) (t:=37) (e:=3) (n:=t264.length) (cp:=c266) (sz:=1) (kk:=.i64) (x:=(.tmp 62)) (y:=(.tmp 63)) (b:=b409) (o':=p410) (j:=t138) (by kernel_rfl) (by kernel_rfl) (slv (by kernel_rfl) hA411) (by kernel_rfl) (by kernel_rfl) (by kernel_rfl) g407.1 g407.2 ?_
      refine qL1 3 (.tmp 64) 0 (fun w hC => ((hC.row 11 rfl).at2 hA411 (len_encI .i64) (by omega) g407.1 g407.2)) ?_
      refine qR 4 [12,13] ?_
      obtain ⟨g413,hp414⟩:=ite_some hp408
      obtain ⟨b415,p416,hA417,-⟩:=(hS382.row 9 rfl).at_ len_api_Pick (by omega) g413.1 g413.2
      refine q_indexAddr (c:=(hd p10_26 14)) (i:=12) (d:=(some 70)) (ty:=0) (t:=40) (e:=88) (n:=t194.length) (cp:=Q198) (sz:=3) (kk:=.i64) (x:=(.tmp 68)) (y:=(.tmp 69)) (b:=b415) (o':=p416) (j:=t255) (by kernel_rfl) (by kernel_rfl) (slv (by kernel_rfl) hA417) (by kernel_rfl) (by kernel_rfl) (by kernel_rfl) g413.1 g413.2 ?_
      refine qLa 88 (.tmp 70) (fun w hC => ((hC.row 9 rfl).at2 hA417 len_api_Pick (by omega) g413.1 g413.2)) ?_
      refine Qs.nil ?_
      intro w419 hS420
      obtain ⟨⟨t421,t422,t423,t424,t425,t426,t427,t428,t429,t430,t431,t432⟩,hr448,hp449⟩:=bind_some' hp414
      try dsimp only at hp449
      have hS460:=hS420.pick6
      have hS461:=hS460.pick6
      have hS462:=hS461.pick6
      have hS463:=hS462.pick6
      have hS464:=hS463.pick6
      have hS465:=hS464.pick6
      have hS466:=hS465.pick17
      have hS467:=hS466.pick17
      have hS468:=hS467.pick17
      have hS469:=hS468.pick17
      have hS470:=hS469.pick17
      have hS471:=hS470.pick17
      have hS472:=hS471.pick17
      have hS473:=hS472.pick15
      have hS474:=hS473.pick15
      refine rC (weirref14_Graph__put.ok hr448 hS474 ha0_1c1v_0 ha0_1c1v_1 ha0_1c1v_2) ?_
      rintro _ w475 ⟨Q433,Q434,Q435,Q436,Q437,Q438,Q439,Q440,Q441,Q442,Q443,Q444,Q445,Q446,Q447,rfl,hS476⟩
      refine ⟨_,rfl,?_⟩
      refine sI 6 (.inRegion (opsOf (cd10 [1,1,1,0,1,0,0,1,0,0,1,1,0,0,1,0,0,1,1,1,0])) []::.code (cd10 [1,1,1,0,1,0,0,1,0,0,1,1,0,0,1,0,0,1,1,1,1])::td75) 74 hp449 (fun hp479 => ?_) fun hp541 => ?_
      ·refine sR 2 (.code p10_30::td75) ?_
       obtain ⟨g480,hp481⟩:=ite_some hp479
       have hS482:=hS476.pick2
       have hS486:=hS482.rrAt g480
       obtain ⟨b487,p488,hA489⟩:=hS486.atH g480
       have hS490:=hS486.pick18
       have hS491:=hS490.pick10
       have hS492:=hS491.pick4
       have hS493:=hS492.pick4
       have hS494:=hS493.pick4
       generalize hg496 : (xrow Q433 Q434 9 1 (t422.flatMap encS)::xrow Q435 Q436 3 1 (t423.flatMap (encI .i64))::xrow Q440 Q441 4 1 (t425.flatMap encB)::xrow Q442 Q443 84 49 (t426.flatMap enc_api_Final)::xrow Q444 Q445 3 1 (t427.flatMap (encI .i64))::xrow Q446 Q447 88 3 (t428.flatMap enc_api_Pick)::xmap b9 (t430.map (kv Value.string (Value.int .i64)))::xblk ba0_1c0 33 ([.pointer (some ⟨ba0_1c0v,0,none⟩)])::xblk ba0_1c0v 49 ([.map (some ba0_1c0vv_0),.map (some ba0_1c0vv_1),.map (some ba0_1c0vv_2),.bool t431])::xmap ba0_1c0vv_0 (t196.map (kv Value.string (Value.int .i64)))::xmap ba0_1c0vv_1 (t432.map (kv Value.string (Value.int .i64)))::xmap ba0_1c0vv_2 (t329.map (kv Value.string (Value.int .i64)))::xblk ba0_1c1 26 ([.slice Aa0_1c1v_0 a0_1c1v.Next.length ca0_1c1v_0,.slice Aa0_1c1v_1 a0_1c1v.End.length ca0_1c1v_1,.slice Aa0_1c1v_2 a0_1c1v.Value.length ca0_1c1v_2,.int .i64 a0_1c1v.Start])::xblk b1 32 ([.string y9,.func (.func 28) #[] #[.pointer (some ⟨ba0_1c0,0,none⟩),.pointer (some ⟨ba0_1c1,0,none⟩)],.func (.func 31) #[] #[.pointer (some ⟨ba0_1c1,0,none⟩),.pointer (some ⟨ba0_1c0,0,none⟩)],.func (.func 32) #[] #[.pointer (some ⟨ba0_1c0,0,none⟩),.pointer (some ⟨ba0_1c1,0,none⟩)]])::xblk b5 43 ([.slice none 0 0,.slice none 0 0,.slice none 0 0,.slice none 0 0,.slice none 0 0,.slice none 0 0,.slice none 0 0,.bool false,.map none])::fs) = gs495 at hS494
       obtain ⟨g497,hp498⟩:=ite_some hp481
       obtain ⟨b499,p500,hA501,-⟩:=(hS494.row 4 rfl).at_ len_api_Pick (by omega) g497.1 g497.2
       obtain ⟨g509,hp510⟩:=ite_some hp498
       refine r_drawnP (S:=Option Nat × Option (Option Addr × Nat) × Option Unit) (dn:=(fun (st : Option Nat × Option (Option Addr × Nat) × Option Unit) k => [st.1.isSome,st.2.1.isSome,st.2.2.isSome].getD k true)) (C:=(fun st w' => match st with | (none,none,none) => St w0 Z (xrow Q437 Q438 93 1 ((hdl Q439 t424).flatMap encH)::xrow ((Q439 t138.toNat).1) ((Q439 t138.toNat).2) 95 4 ((gt t424 t138).flatMap enc_weirref14_Move)::xels (fun k => False ∨ k = t138.toNat) Q439 95 4 enc_weirref14_Move t424::xblk b14 43 ([.slice Q433 t422.length Q434,.slice Q435 t423.length Q436,.slice Q437 t424.length Q438,.slice Q440 t425.length Q441,.slice Q442 t426.length Q443,.slice Q444 t427.length Q445,.slice Q446 t428.length Q447,.bool t429,.map (some b9)])::xrow Q197 Q198 88 3 (t194.flatMap enc_api_Pick)::gs495) w' | (none,none,some _) => False | (none,some x508,none) => False | (none,some x508,some _) => False | (some b503,none,none) => St w0 Z (xrow (some ⟨b503,0,none⟩) 1 95 4 (([(⟨t421,(gt t194 t255)⟩ : weirref14_Move)] : List weirref14_Move).flatMap enc_weirref14_Move)::xrow Q437 Q438 93 1 ((hdl Q439 t424).flatMap encH)::xrow ((Q439 t138.toNat).1) ((Q439 t138.toNat).2) 95 4 ((gt t424 t138).flatMap enc_weirref14_Move)::xels (fun k => False ∨ k = t138.toNat) Q439 95 4 enc_weirref14_Move t424::xblk b14 43 ([.slice Q433 t422.length Q434,.slice Q435 t423.length Q436,.slice Q437 t424.length Q438,.slice Q440 t425.length Q441,.slice Q442 t426.length Q443,.slice Q444 t427.length Q445,.slice Q446 t428.length Q447,.bool t429,.map (some b9)])::xrow Q197 Q198 88 3 (t194.flatMap enc_api_Pick)::gs495) w' | (some b503,none,some _) => False | (some b503,some x508,none) => St w0 Z (xrow x508.1 x508.2 95 4 (((gt t424 t138) ++ ([(⟨t421,(gt t194 t255)⟩ : weirref14_Move)] : List weirref14_Move)).flatMap enc_weirref14_Move)::xrow (some ⟨b503,0,none⟩) 1 95 4 (([(⟨t421,(gt t194 t255)⟩ : weirref14_Move)] : List weirref14_Move).flatMap enc_weirref14_Move)::xrow Q437 Q438 93 1 ((hdl Q439 t424).flatMap encH)::xels (fun k => False ∨ k = t138.toNat) Q439 95 4 enc_weirref14_Move t424::xblk b14 43 ([.slice Q433 t422.length Q434,.slice Q435 t423.length Q436,.slice Q437 t424.length Q438,.slice Q440 t425.length Q441,.slice Q442 t426.length Q443,.slice Q444 t427.length Q445,.slice Q446 t428.length Q447,.bool t429,.map (some b9)])::xrow Q197 Q198 88 3 (t194.flatMap enc_api_Pick)::gs495) w' | (some b503,some x508,some _) => St w0 Z (xrow Q437 Q438 93 1 ((setl (hdl Q439 t424) t138 (x508.1,((gt t424 t138) ++ ([(⟨t421,(gt t194 t255)⟩ : weirref14_Move)] : List weirref14_Move)).length,x508.2)).flatMap encH)::xrow x508.1 x508.2 95 4 (((gt t424 t138) ++ ([(⟨t421,(gt t194 t255)⟩ : weirref14_Move)] : List weirref14_Move)).flatMap enc_weirref14_Move)::xrow (some ⟨b503,0,none⟩) 1 95 4 (([(⟨t421,(gt t194 t255)⟩ : weirref14_Move)] : List weirref14_Move).flatMap enc_weirref14_Move)::xels (fun k => False ∨ k = t138.toNat) Q439 95 4 enc_weirref14_Move t424::xblk b14 43 ([.slice Q433 t422.length Q434,.slice Q435 t423.length Q436,.slice Q437 t424.length Q438,.slice Q440 t425.length Q441,.slice Q442 t426.length Q443,.slice Q444 t427.length Q445,.slice Q446 t428.length Q447,.bool t429,.map (some b9)])::xrow Q197 Q198 88 3 (t194.flatMap enc_api_Pick)::gs495) w')) (v:=(fun st => match st with | (none,none,none) => [.pointer (some ⟨b14,2,none⟩),.slice Q437 t424.length Q438,.int .i64 t138,.pointer (some ⟨b14,2,none⟩),.slice Q437 t424.length Q438,.int .i64 t138,.pointer (some ⟨b487,p488 + t138.toNat * 1,none⟩),.slice ((Q439 t138.toNat).1) (gt t424 t138).length ((Q439 t138.toNat).2),.int .i64 t421,.slice Q197 t194.length Q198,.int .i64 t255,.pointer (some ⟨b499,p500 + t255.toNat * 3,none⟩),.agg (enc_api_Pick (gt t194 t255)).toArray,.agg (enc_weirref14_Move (⟨t421,(gt t194 t255)⟩ : weirref14_Move)).toArray,undef,undef,undef,undef] | (none,none,some _) => [.pointer (some ⟨b14,2,none⟩),.slice Q437 t424.length Q438,.int .i64 t138,.pointer (some ⟨b14,2,none⟩),.slice Q437 t424.length Q438,.int .i64 t138,.pointer (some ⟨b487,p488 + t138.toNat * 1,none⟩),.slice ((Q439 t138.toNat).1) (gt t424 t138).length ((Q439 t138.toNat).2),.int .i64 t421,.slice Q197 t194.length Q198,.int .i64 t255,.pointer (some ⟨b499,p500 + t255.toNat * 3,none⟩),.agg (enc_api_Pick (gt t194 t255)).toArray,.agg (enc_weirref14_Move (⟨t421,(gt t194 t255)⟩ : weirref14_Move)).toArray,undef,undef,undef,undef] | (none,some x508,none) => [.pointer (some ⟨b14,2,none⟩),.slice Q437 t424.length Q438,.int .i64 t138,.pointer (some ⟨b14,2,none⟩),.slice Q437 t424.length Q438,.int .i64 t138,.pointer (some ⟨b487,p488 + t138.toNat * 1,none⟩),.slice ((Q439 t138.toNat).1) (gt t424 t138).length ((Q439 t138.toNat).2),.int .i64 t421,.slice Q197 t194.length Q198,.int .i64 t255,.pointer (some ⟨b499,p500 + t255.toNat * 3,none⟩),.agg (enc_api_Pick (gt t194 t255)).toArray,.agg (enc_weirref14_Move (⟨t421,(gt t194 t255)⟩ : weirref14_Move)).toArray,undef,undef,undef,undef] | (none,some x508,some _) => [.pointer (some ⟨b14,2,none⟩),.slice Q437 t424.length Q438,.int .i64 t138,.pointer (some ⟨b14,2,none⟩),.slice Q437 t424.length Q438,.int .i64 t138,.pointer (some ⟨b487,p488 + t138.toNat * 1,none⟩),.slice ((Q439 t138.toNat).1) (gt t424 t138).length ((Q439 t138.toNat).2),.int .i64 t421,.slice Q197 t194.length Q198,.int .i64 t255,.pointer (some ⟨b499,p500 + t255.toNat * 3,none⟩),.agg (enc_api_Pick (gt t194 t255)).toArray,.agg (enc_weirref14_Move (⟨t421,(gt t194 t255)⟩ : weirref14_Move)).toArray,undef,undef,undef,undef] | (some b503,none,none) => [.pointer (some ⟨b14,2,none⟩),.slice Q437 t424.length Q438,.int .i64 t138,.pointer (some ⟨b14,2,none⟩),.slice Q437 t424.length Q438,.int .i64 t138,.pointer (some ⟨b487,p488 + t138.toNat * 1,none⟩),.slice ((Q439 t138.toNat).1) (gt t424 t138).length ((Q439 t138.toNat).2),.int .i64 t421,.slice Q197 t194.length Q198,.int .i64 t255,.pointer (some ⟨b499,p500 + t255.toNat * 3,none⟩),.agg (enc_api_Pick (gt t194 t255)).toArray,.agg (enc_weirref14_Move (⟨t421,(gt t194 t255)⟩ : weirref14_Move)).toArray,.slice (some ⟨b503,0,none⟩) ([(⟨t421,(gt t194 t255)⟩ : weirref14_Move)] : List weirref14_Move).length 1,undef,undef,undef] | (some b503,none,some _) => [.pointer (some ⟨b14,2,none⟩),.slice Q437 t424.length Q438,.int .i64 t138,.pointer (some ⟨b14,2,none⟩),.slice Q437 t424.length Q438,.int .i64 t138,.pointer (some ⟨b487,p488 + t138.toNat * 1,none⟩),.slice ((Q439 t138.toNat).1) (gt t424 t138).length ((Q439 t138.toNat).2),.int .i64 t421,.slice Q197 t194.length Q198,.int .i64 t255,.pointer (some ⟨b499,p500 + t255.toNat * 3,none⟩),.agg (enc_api_Pick (gt t194 t255)).toArray,.agg (enc_weirref14_Move (⟨t421,(gt t194 t255)⟩ : weirref14_Move)).toArray,.slice (some ⟨b503,0,none⟩) ([(⟨t421,(gt t194 t255)⟩ : weirref14_Move)] : List weirref14_Move).length 1,undef,undef,undef] | (some b503,some x508,none) => [.pointer (some ⟨b14,2,none⟩),.slice Q437 t424.length Q438,.int .i64 t138,.pointer (some ⟨b14,2,none⟩),.slice Q437 t424.length Q438,.int .i64 t138,.pointer (some ⟨b487,p488 + t138.toNat * 1,none⟩),.slice ((Q439 t138.toNat).1) (gt t424 t138).length ((Q439 t138.toNat).2),.int .i64 t421,.slice Q197 t194.length Q198,.int .i64 t255,.pointer (some ⟨b499,p500 + t255.toNat * 3,none⟩),.agg (enc_api_Pick (gt t194 t255)).toArray,.agg (enc_weirref14_Move (⟨t421,(gt t194 t255)⟩ : weirref14_Move)).toArray,.slice (some ⟨b503,0,none⟩) ([(⟨t421,(gt t194 t255)⟩ : weirref14_Move)] : List weirref14_Move).length 1,.slice x508.1 ((gt t424 t138) ++ ([(⟨t421,(gt t194 t255)⟩ : weirref14_Move)] : List weirref14_Move)).length x508.2,.pointer (some ⟨b487,p488 + t138.toNat * 1,none⟩),undef] | (some b503,some x508,some _) => [.pointer (some ⟨b14,2,none⟩),.slice Q437 t424.length Q438,.int .i64 t138,.pointer (some ⟨b14,2,none⟩),.slice Q437 t424.length Q438,.int .i64 t138,.pointer (some ⟨b487,p488 + t138.toNat * 1,none⟩),.slice ((Q439 t138.toNat).1) (gt t424 t138).length ((Q439 t138.toNat).2),.int .i64 t421,.slice Q197 t194.length Q198,.int .i64 t255,.pointer (some ⟨b499,p500 + t255.toNat * 3,none⟩),.agg (enc_api_Pick (gt t194 t255)).toArray,.agg (enc_weirref14_Move (⟨t421,(gt t194 t255)⟩ : weirref14_Move)).toArray,.slice (some ⟨b503,0,none⟩) ([(⟨t421,(gt t194 t255)⟩ : weirref14_Move)] : List weirref14_Move).length 1,.slice x508.1 ((gt t424 t138) ++ ([(⟨t421,(gt t194 t255)⟩ : weirref14_Move)] : List weirref14_Move)).length x508.2,.pointer (some ⟨b487,p488 + t138.toNat * 1,none⟩),undef])) (c:=p10_30) (id:=14) (none,none,none) 17 18 [14,15,17] [[],[],[],[],[],[],[],[],[],[],[],[],[],[],[],[0],[0,1],[0,1]] [[2],[2],[2],[2],[2],[2],[2],[1,2],[2],[2],[2],[2],[2],[0,2],[1,2],[2],[2],[]] [] [true,true,true,true,true,true,true,true,true,true,true,true,true,true,true,true,true,true] (by kernel_rfl) (by kernel_rfl) (by kernel_rfl) (by kernel_rfl) (by kernel_rfl) (by kernel_rfl) (by kernel_rfl) (by kernel_rfl) (by kernel_rfl) (fun k hk => match k,hk with | 0,_ => rfl | 1,_ => rfl | 2,_ => rfl | k + 3,hk => absurd hk (by simp)) hS494.drew ?_ (fun k hk => match k,hk with | 0,_ => rfl | 1,_ => rfl | 2,_ => rfl | k + 3,hk => absurd hk (by simp)) ?_ ?_ ?_
       ·intro i hi st w hC hd
        match i,hi with
        | 0,_ => (show _ = _; kernel_rfl)
        | 1,_ => (show _ = _; kernel_rfl)
        | 2,_ => (show _ = _; kernel_rfl)
        | 3,_ => (show _ = _; kernel_rfl)
        | 4,_ => (show _ = _; kernel_rfl)
        | 5,_ => (show _ = _; kernel_rfl)
        | 6,_ => (show _ = _; kernel_rfl)
        | 7,_ => (show _ = _; kernel_rfl)
        | 8,_ => (show _ = _; kernel_rfl)
        | 9,_ => (show _ = _; kernel_rfl)
        | 10,_ => (show _ = _; kernel_rfl)
        | 11,_ => (show _ = _; kernel_rfl)
        | 12,_ => (show _ = _; kernel_rfl)
        | 13,_ => (show _ = _; kernel_rfl)
        | 14,_ => (show _ = _; kernel_rfl)
        | 15,_ => (show _ = _; kernel_rfl)
        | 16,_ => (show _ = _; kernel_rfl)
        | 17,_ => (show _ = _; kernel_rfl)
        | i + 18,hi => exact absurd hi (by omega)
       ·intro i hi he st w hC hd hu
        match i,hi,he with
        | 0,_,_ =>
         rcases st with ⟨_ | b503,_ | x508,_ | _⟩
         ·dsimp only at hC
          exact dG (.pointer (some ⟨b14,2,none⟩)) hC
         ·exact False.elim hC
         ·exact False.elim hC
         ·exact False.elim hC
         ·dsimp only at hC
          exact dG (.pointer (some ⟨b14,2,none⟩)) hC
         ·exact False.elim hC
         ·dsimp only at hC
          exact dG (.pointer (some ⟨b14,2,none⟩)) hC
         ·exact Bool.noConfusion (hu 2 (by decide))
        | 1,_,_ =>
         rcases st with ⟨_ | b503,_ | x508,_ | _⟩
         ·dsimp only at hC
          exact ⟨fun _ => does_run (x_load (t:=38) (x:=(.tmp 75)) (p:=⟨b14,2,none⟩) (v:=.slice Q437 t424.length Q438) (by kernel_rfl) (loads_at 2 (hC.blk 3 rfl) (by kernel_rfl) (by kernel_rfl)) (by kernel_rfl)) rfl hC,fun h => absurd h (by decide)⟩
         ·exact False.elim hC
         ·exact False.elim hC
         ·exact False.elim hC
         ·dsimp only at hC
          exact ⟨fun _ => does_run (x_load (t:=38) (x:=(.tmp 75)) (p:=⟨b14,2,none⟩) (v:=.slice Q437 t424.length Q438) (by kernel_rfl) (loads_at 2 (hC.blk 4 rfl) (by kernel_rfl) (by kernel_rfl)) (by kernel_rfl)) rfl hC,fun h => absurd h (by decide)⟩
         ·exact False.elim hC
         ·dsimp only at hC
          exact ⟨fun _ => does_run (x_load (t:=38) (x:=(.tmp 75)) (p:=⟨b14,2,none⟩) (v:=.slice Q437 t424.length Q438) (by kernel_rfl) (loads_at 2 (hC.blk 4 rfl) (by kernel_rfl) (by kernel_rfl)) (by kernel_rfl)) rfl hC,fun h => absurd h (by decide)⟩
         ·exact Bool.noConfusion (hu 2 (by decide))
        | 2,_,_ =>
         rcases st with ⟨_ | b503,_ | x508,_ | _⟩
         ·dsimp only at hC
          exact dG (.int .i64 t138) hC
         ·exact False.elim hC
         ·exact False.elim hC
         ·exact False.elim hC
         ·dsimp only at hC
          exact dG (.int .i64 t138) hC
         ·exact False.elim hC
         ·dsimp only at hC
          exact dG (.int .i64 t138) hC
         ·exact Bool.noConfusion (hu 2 (by decide))
        | 3,_,_ =>
         rcases st with ⟨_ | b503,_ | x508,_ | _⟩
         ·dsimp only at hC
          exact dG (.pointer (some ⟨b14,2,none⟩)) hC
         ·exact False.elim hC
         ·exact False.elim hC
         ·exact False.elim hC
         ·dsimp only at hC
          exact dG (.pointer (some ⟨b14,2,none⟩)) hC
         ·exact False.elim hC
         ·dsimp only at hC
          exact dG (.pointer (some ⟨b14,2,none⟩)) hC
         ·exact Bool.noConfusion (hu 2 (by decide))
        | 4,_,_ =>
         rcases st with ⟨_ | b503,_ | x508,_ | _⟩
         ·dsimp only at hC
          exact ⟨fun _ => does_run (x_load (t:=38) (x:=(.tmp 78)) (p:=⟨b14,2,none⟩) (v:=.slice Q437 t424.length Q438) (by kernel_rfl) (loads_at 2 (hC.blk 3 rfl) (by kernel_rfl) (by kernel_rfl)) (by kernel_rfl)) rfl hC,fun h => absurd h (by decide)⟩
         ·exact False.elim hC
         ·exact False.elim hC
         ·exact False.elim hC
         ·dsimp only at hC
          exact ⟨fun _ => does_run (x_load (t:=38) (x:=(.tmp 78)) (p:=⟨b14,2,none⟩) (v:=.slice Q437 t424.length Q438) (by kernel_rfl) (loads_at 2 (hC.blk 4 rfl) (by kernel_rfl) (by kernel_rfl)) (by kernel_rfl)) rfl hC,fun h => absurd h (by decide)⟩
         ·exact False.elim hC
         ·dsimp only at hC
          exact ⟨fun _ => does_run (x_load (t:=38) (x:=(.tmp 78)) (p:=⟨b14,2,none⟩) (v:=.slice Q437 t424.length Q438) (by kernel_rfl) (loads_at 2 (hC.blk 4 rfl) (by kernel_rfl) (by kernel_rfl)) (by kernel_rfl)) rfl hC,fun h => absurd h (by decide)⟩
         ·exact Bool.noConfusion (hu 2 (by decide))
        | 5,_,_ =>
         rcases st with ⟨_ | b503,_ | x508,_ | _⟩
         ·dsimp only at hC
          exact dG (.int .i64 t138) hC
         ·exact False.elim hC
         ·exact False.elim hC
         ·exact False.elim hC
         ·dsimp only at hC
          exact dG (.int .i64 t138) hC
         ·exact False.elim hC
         ·dsimp only at hC
          exact dG (.int .i64 t138) hC
         ·exact Bool.noConfusion (hu 2 (by decide))
        | 6,_,_ =>
         rcases st with ⟨_ | b503,_ | x508,_ | _⟩
         ·dsimp only at hC
          exact ⟨fun _ => does_run (x_indexAddr (t:=38) (e:=93) (x:=(.tmp 79)) (y:=(.tmp 80)) (b:=b487) (o':=p488) (n:=t424.length) (cp:=Q438) (sz:=1) (kk:=.i64) (j:=t138) (slv (by kernel_rfl) hA489) (by kernel_rfl) (by kernel_rfl) (by kernel_rfl) g480.1 g480.2 (by kernel_rfl)) rfl hC,fun h => absurd h (by decide)⟩
         ·exact False.elim hC
         ·exact False.elim hC
         ·exact False.elim hC
         ·dsimp only at hC
          exact ⟨fun _ => does_run (x_indexAddr (t:=38) (e:=93) (x:=(.tmp 79)) (y:=(.tmp 80)) (b:=b487) (o':=p488) (n:=t424.length) (cp:=Q438) (sz:=1) (kk:=.i64) (j:=t138) (slv (by kernel_rfl) hA489) (by kernel_rfl) (by kernel_rfl) (by kernel_rfl) g480.1 g480.2 (by kernel_rfl)) rfl hC,fun h => absurd h (by decide)⟩
         ·exact False.elim hC
         ·dsimp only at hC
          exact ⟨fun _ => does_run (x_indexAddr (t:=38) (e:=93) (x:=(.tmp 79)) (y:=(.tmp 80)) (b:=b487) (o':=p488) (n:=t424.length) (cp:=Q438) (sz:=1) (kk:=.i64) (j:=t138) (slv (by kernel_rfl) hA489) (by kernel_rfl) (by kernel_rfl) (by kernel_rfl) g480.1 g480.2 (by kernel_rfl)) rfl hC,fun h => absurd h (by decide)⟩
         ·exact Bool.noConfusion (hu 2 (by decide))
        | 7,_,_ =>
         rcases st with ⟨_ | b503,_ | x508,_ | _⟩
         ·dsimp only at hC
          exact ⟨fun _ => does_run (x_load (t:=93) (x:=(.tmp 81)) (p:=⟨b487,p488 + t138.toNat * 1,none⟩) (v:=.slice ((Q439 t138.toNat).1) (gt t424 t138).length ((Q439 t138.toNat).2)) (by kernel_rfl) (loads_at 0 (RowIn.at2H (x:=((Q439 t138.toNat).1,(gt t424 t138).length,(Q439 t138.toNat).2)) (hC.row 0 rfl) hA489 (hdl_g g480) (hdl_gt g480)) (by kernel_rfl) (by kernel_rfl)) (by kernel_rfl)) rfl hC,fun h => absurd h (by decide)⟩
         ·exact False.elim hC
         ·exact False.elim hC
         ·exact False.elim hC
         ·dsimp only at hC
          exact ⟨fun _ => does_run (x_load (t:=93) (x:=(.tmp 81)) (p:=⟨b487,p488 + t138.toNat * 1,none⟩) (v:=.slice ((Q439 t138.toNat).1) (gt t424 t138).length ((Q439 t138.toNat).2)) (by kernel_rfl) (loads_at 0 (RowIn.at2H (x:=((Q439 t138.toNat).1,(gt t424 t138).length,(Q439 t138.toNat).2)) (hC.row 1 rfl) hA489 (hdl_g g480) (hdl_gt g480)) (by kernel_rfl) (by kernel_rfl)) (by kernel_rfl)) rfl hC,fun h => absurd h (by decide)⟩
         ·exact False.elim hC
         ·exact Bool.noConfusion (hu 1 (by decide))
         ·exact Bool.noConfusion (hu 1 (by decide))
        | 8,_,_ =>
         rcases st with ⟨_ | b503,_ | x508,_ | _⟩
         ·dsimp only at hC
          exact dG (.int .i64 t421) hC
         ·exact False.elim hC
         ·exact False.elim hC
         ·exact False.elim hC
         ·dsimp only at hC
          exact dG (.int .i64 t421) hC
         ·exact False.elim hC
         ·dsimp only at hC
          exact dG (.int .i64 t421) hC
         ·exact Bool.noConfusion (hu 2 (by decide))
        | 9,_,_ =>
         rcases st with ⟨_ | b503,_ | x508,_ | _⟩
         ·dsimp only at hC
          exact dG (.slice Q197 t194.length Q198) hC
         ·exact False.elim hC
         ·exact False.elim hC
         ·exact False.elim hC
         ·dsimp only at hC
          exact dG (.slice Q197 t194.length Q198) hC
         ·exact False.elim hC
         ·dsimp only at hC
          exact dG (.slice Q197 t194.length Q198) hC
         ·exact Bool.noConfusion (hu 2 (by decide))
        | 10,_,_ =>
         rcases st with ⟨_ | b503,_ | x508,_ | _⟩
         ·dsimp only at hC
          exact dG (.int .i64 t255) hC
         ·exact False.elim hC
         ·exact False.elim hC
         ·exact False.elim hC
         ·dsimp only at hC
          exact dG (.int .i64 t255) hC
         ·exact False.elim hC
         ·dsimp only at hC
          exact dG (.int .i64 t255) hC
         ·exact Bool.noConfusion (hu 2 (by decide))
        | 11,_,_ =>
         rcases st with ⟨_ | b503,_ | x508,_ | _⟩
         ·dsimp only at hC
          exact ⟨fun _ => does_run (x_indexAddr (t:=40) (e:=88) (x:=(.tmp 84)) (y:=(.tmp 85)) (b:=b499) (o':=p500) (n:=t194.length) (cp:=Q198) (sz:=3) (kk:=.i64) (j:=t255) (slv (by kernel_rfl) hA501) (by kernel_rfl) (by kernel_rfl) (by kernel_rfl) g497.1 g497.2 (by kernel_rfl)) rfl hC,fun h => absurd h (by decide)⟩
         ·exact False.elim hC
         ·exact False.elim hC
         ·exact False.elim hC
         ·dsimp only at hC
          exact ⟨fun _ => does_run (x_indexAddr (t:=40) (e:=88) (x:=(.tmp 84)) (y:=(.tmp 85)) (b:=b499) (o':=p500) (n:=t194.length) (cp:=Q198) (sz:=3) (kk:=.i64) (j:=t255) (slv (by kernel_rfl) hA501) (by kernel_rfl) (by kernel_rfl) (by kernel_rfl) g497.1 g497.2 (by kernel_rfl)) rfl hC,fun h => absurd h (by decide)⟩
         ·exact False.elim hC
         ·dsimp only at hC
          exact ⟨fun _ => does_run (x_indexAddr (t:=40) (e:=88) (x:=(.tmp 84)) (y:=(.tmp 85)) (b:=b499) (o':=p500) (n:=t194.length) (cp:=Q198) (sz:=3) (kk:=.i64) (j:=t255) (slv (by kernel_rfl) hA501) (by kernel_rfl) (by kernel_rfl) (by kernel_rfl) g497.1 g497.2 (by kernel_rfl)) rfl hC,fun h => absurd h (by decide)⟩
         ·exact Bool.noConfusion (hu 2 (by decide))
        | 12,_,_ =>
         rcases st with ⟨_ | b503,_ | x508,_ | _⟩
         ·dsimp only at hC
          exact ⟨fun _ => does_run (x_load (t:=88) (x:=(.tmp 86)) (p:=⟨b499,p500 + t255.toNat * 3,none⟩) (v:=.agg (enc_api_Pick (gt t194 t255)).toArray) (by kernel_rfl) (loads_agg ((hC.row 4 rfl).at2 hA501 len_api_Pick (by omega) g497.1 g497.2) (by kernel_rfl) (by kernel_rfl)) (by kernel_rfl)) rfl hC,fun h => absurd h (by decide)⟩
         ·exact False.elim hC
         ·exact False.elim hC
         ·exact False.elim hC
         ·dsimp only at hC
          exact ⟨fun _ => does_run (x_load (t:=88) (x:=(.tmp 86)) (p:=⟨b499,p500 + t255.toNat * 3,none⟩) (v:=.agg (enc_api_Pick (gt t194 t255)).toArray) (by kernel_rfl) (loads_agg ((hC.row 5 rfl).at2 hA501 len_api_Pick (by omega) g497.1 g497.2) (by kernel_rfl) (by kernel_rfl)) (by kernel_rfl)) rfl hC,fun h => absurd h (by decide)⟩
         ·exact False.elim hC
         ·dsimp only at hC
          exact ⟨fun _ => does_run (x_load (t:=88) (x:=(.tmp 86)) (p:=⟨b499,p500 + t255.toNat * 3,none⟩) (v:=.agg (enc_api_Pick (gt t194 t255)).toArray) (by kernel_rfl) (loads_agg ((hC.row 5 rfl).at2 hA501 len_api_Pick (by omega) g497.1 g497.2) (by kernel_rfl) (by kernel_rfl)) (by kernel_rfl)) rfl hC,fun h => absurd h (by decide)⟩
         ·exact Bool.noConfusion (hu 2 (by decide))
        | 13,_,_ =>
         rcases st with ⟨_ | b503,_ | x508,_ | _⟩
         ·dsimp only at hC
          exact dG (.agg (enc_weirref14_Move (⟨t421,(gt t194 t255)⟩ : weirref14_Move)).toArray) hC
         ·exact False.elim hC
         ·exact False.elim hC
         ·exact False.elim hC
         ·exact Bool.noConfusion (hu 0 (by decide))
         ·exact False.elim hC
         ·exact Bool.noConfusion (hu 0 (by decide))
         ·exact Bool.noConfusion (hu 0 (by decide))
        | 14,_,he => exact absurd he (by decide)
        | 15,_,he => exact absurd he (by decide)
        | 16,_,_ =>
         rcases st with ⟨_ | b503,_ | x508,_ | _⟩
         ·exact Bool.noConfusion (hd 0 (by decide))
         ·exact False.elim hC
         ·exact False.elim hC
         ·exact False.elim hC
         ·exact Bool.noConfusion (hd 1 (by decide))
         ·exact False.elim hC
         ·dsimp only at hC
          exact ⟨fun _ => does_run (x_indexAddr (t:=38) (e:=93) (x:=(.tmp 76)) (y:=(.tmp 77)) (b:=b487) (o':=p488) (n:=t424.length) (cp:=Q438) (sz:=1) (kk:=.i64) (j:=t138) (slv (by kernel_rfl) hA489) (by kernel_rfl) (by kernel_rfl) (by kernel_rfl) g480.1 g480.2 (by kernel_rfl)) rfl hC,fun h => absurd h (by decide)⟩
         ·exact Bool.noConfusion (hu 2 (by decide))
        | 17,_,he => exact absurd he (by decide)
        | i + 18,hi,_ => exact absurd hi (by omega)
       ·intro k hk st w hC hr hm
        match k,hk with
        | 0,_ =>
         rcases st with ⟨_ | b503,_ | x508,_ | _⟩
         ·dsimp only at hC
          refine does_lit (t:=93) (e:=95) (sz:=4) (n:=1) (parts:=#[(0,(.tmp 88))]) (vs:=[(0,.agg (enc_weirref14_Move (⟨t421,(gt t194 t255)⟩ : weirref14_Move)).toArray)]) (z:=zeroOf Try.prog 95) (cs':=([(⟨t421,(gt t194 t255)⟩ : weirref14_Move)] : List weirref14_Move).flatMap enc_weirref14_Move) hC (by kernel_rfl) (by kernel_rfl) (by kernel_rfl) (by kernel_rfl) (by decide) (by decide) (by kernel_rfl) rfl (Parts.cons (c:=enc_weirref14_Move (⟨t421,(gt t194 t255)⟩ : weirref14_Move)) (by kernel_rfl) (len_weirref14_Move _) Parts.nil) rfl ?_
          intro b503 w2 h2
          have h2:=h2.pick5
          have h2:=h2.pick5
          have h2:=h2.pick5
          have h2:=h2.pick5
          have h2:=h2.pick5
          have h2:=h2.pick5
          refine ⟨(some b503,none,none),rfl,?_,?_,.inr rfl,h2⟩
          ·intro m hne; match m,hne with
           | 0,hne => exact absurd rfl hne
           | 1,hne => exact rfl
           | 2,hne => exact rfl
           | m + 3,_ => exact rfl
          ·intro j hj; match j,hj with
           | 0,hj => exact rfl
           | 1,hj => exact rfl
           | 2,hj => exact rfl
           | 3,hj => exact rfl
           | 4,hj => exact rfl
           | 5,hj => exact rfl
           | 6,hj => exact rfl
           | 7,hj => exact rfl
           | 8,hj => exact rfl
           | 9,hj => exact rfl
           | 10,hj => exact rfl
           | 11,hj => exact rfl
           | 12,hj => exact rfl
           | 13,hj => exact rfl
           | 14,hj => exact absurd (by decide) hj
           | 15,hj => exact absurd (by decide) hj
           | 16,hj => exact absurd (by decide) hj
           | 17,hj => exact absurd (by decide) hj
           | j + 18,_ => exact rfl
         ·exact False.elim hC
         ·exact False.elim hC
         ·exact False.elim hC
         ·exact Bool.noConfusion hr
         ·exact False.elim hC
         ·exact Bool.noConfusion hr
         ·exact Bool.noConfusion hr
        | 1,_ =>
         rcases st with ⟨_ | b503,_ | x508,_ | _⟩
         ·exact Bool.noConfusion (hm 0 (by decide))
         ·exact False.elim hC
         ·exact False.elim hC
         ·exact False.elim hC
         ·dsimp only at hC
          have hC:=hC.pick2
          refine does_append (enc:=enc_weirref14_Move) (e:=95) (u:=95) (t:=93) (t2:=93) (sz:=4) (cp:=((Q439 t138.toNat).2)) (A:=((Q439 t138.toNat).1)) (bytes:=32) (xs:=(gt t424 t138)) (ys:=([(⟨t421,(gt t194 t255)⟩ : weirref14_Move)] : List weirref14_Move)) (s:=(.tmp 82)) (x:=(.tmp 89)) (xv:=.slice (some ⟨b503,0,none⟩) ([(⟨t421,(gt t194 t255)⟩ : weirref14_Move)] : List weirref14_Move).length 1) (info:=infoOf Try.prog 95) (z:=zeroOf Try.prog 95) (ycs:=([(⟨t421,(gt t194 t255)⟩ : weirref14_Move)] : List weirref14_Move).flatMap enc_weirref14_Move) hC (by kernel_rfl) (by kernel_rfl) (by kernel_rfl) (by kernel_rfl) (.inl (by kernel_rfl)) (by kernel_rfl) (by kernel_rfl) (by kernel_rfl) (by kernel_rfl) (by kernel_rfl) (by omega) len_weirref14_Move one_weirref14_Move (src_row (hC.row 1 rfl) (by omega) len_weirref14_Move) rfl g509 (by omega) ?_
          intro A505 c506 w2 h2
          have h2:=h2.pick5
          have h2:=h2.pick5
          have h2:=h2.pick5
          have h2:=h2.pick5
          have h2:=h2.pick5
          have h2:=h2.pick5
          refine ⟨(some b503,some (A505,c506),none),rfl,?_,?_,.inr rfl,h2⟩
          ·intro m hne; match m,hne with
           | 0,hne => exact rfl
           | 1,hne => exact absurd rfl hne
           | 2,hne => exact rfl
           | m + 3,_ => exact rfl
          ·intro j hj; match j,hj with
           | 0,hj => exact rfl
           | 1,hj => exact rfl
           | 2,hj => exact rfl
           | 3,hj => exact rfl
           | 4,hj => exact rfl
           | 5,hj => exact rfl
           | 6,hj => exact rfl
           | 7,hj => exact rfl
           | 8,hj => exact rfl
           | 9,hj => exact rfl
           | 10,hj => exact rfl
           | 11,hj => exact rfl
           | 12,hj => exact rfl
           | 13,hj => exact rfl
           | 14,hj => exact rfl
           | 15,hj => exact absurd (by decide) hj
           | 16,hj => exact absurd (by decide) hj
           | 17,hj => exact absurd (by decide) hj
           | j + 18,_ => exact rfl
         ·exact False.elim hC
         ·exact Bool.noConfusion hr
         ·exact Bool.noConfusion hr
        | 2,_ =>
         rcases st with ⟨_ | b503,_ | x508,_ | _⟩
         ·exact Bool.noConfusion (hm 0 (by decide))
         ·exact False.elim hC
         ·exact False.elim hC
         ·exact False.elim hC
         ·exact Bool.noConfusion (hm 1 (by decide))
         ·exact False.elim hC
         ·dsimp only at hC
          have hC:=hC.pick2
          refine does_storeEl (enc:=encH) (e:=93) (t:=93) (sz:=1) (cp:=Q438) (A:=Q437) (xs:=(hdl Q439 t424)) (x:=(.tmp 91)) (y:=(.tmp 90)) (el:=gt (hdl Q439 t424) t138) (el':=(x508.1,((gt t424 t138) ++ ([(⟨t421,(gt t194 t255)⟩ : weirref14_Move)] : List weirref14_Move)).length,x508.2)) (j:=t138) (off:=0) (b:=b487) (q:=p488) (v:=.slice x508.1 ((gt t424 t138) ++ ([(⟨t421,(gt t194 t255)⟩ : weirref14_Move)] : List weirref14_Move)).length x508.2) (vs:=[.slice x508.1 ((gt t424 t138) ++ ([(⟨t421,(gt t194 t255)⟩ : weirref14_Move)] : List weirref14_Move)).length x508.2]) (ad:=⟨b487,p488 + t138.toNat * 1,none⟩) hC (by kernel_rfl) (by kernel_rfl) (by kernel_rfl) (by simp) (by kernel_rfl) hA489 (hdl_g g480) rfl len_encH (by kernel_rfl) (by kernel_rfl) (by kernel_rfl) (Nat.le_of_ble_eq_true (by kernel_rfl)) (Nat.le_of_ble_eq_true (by kernel_rfl)) rfl ?_
          intro w2 h2
          have h2:=h2.pick5
          have h2:=h2.pick5
          have h2:=h2.pick5
          have h2:=h2.pick5
          have h2:=h2.pick5
          have h2:=h2.pick5
          refine ⟨(some b503,some x508,some ()),rfl,?_,?_,.inl rfl,h2⟩
          ·intro m hne; match m,hne with
           | 0,hne => exact rfl
           | 1,hne => exact rfl
           | 2,hne => exact absurd rfl hne
           | m + 3,_ => exact rfl
          ·intro j hj; match j,hj with
           | 0,hj => exact rfl
           | 1,hj => exact rfl
           | 2,hj => exact rfl
           | 3,hj => exact rfl
           | 4,hj => exact rfl
           | 5,hj => exact rfl
           | 6,hj => exact rfl
           | 7,hj => exact rfl
           | 8,hj => exact rfl
           | 9,hj => exact rfl
           | 10,hj => exact rfl
           | 11,hj => exact rfl
           | 12,hj => exact rfl
           | 13,hj => exact rfl
           | 14,hj => exact rfl
           | 15,hj => exact rfl
           | 16,hj => exact rfl
           | 17,hj => exact absurd (by decide) hj
           | j + 18,_ => exact rfl
         ·exact Bool.noConfusion hr
        | k + 3,hk => exact absurd hk (by simp)
       intro st514 w511 hS512 hr513
       rcases st514 with ⟨_ | b503,_ | x508,_ | _⟩
       ·exact Bool.noConfusion (hr513 0 (Nat.lt_of_sub_eq_succ rfl))
       ·exact Bool.noConfusion (hr513 0 (Nat.lt_of_sub_eq_succ rfl))
       ·exact Bool.noConfusion (hr513 0 (Nat.lt_of_sub_eq_succ rfl))
       ·exact Bool.noConfusion (hr513 0 (Nat.lt_of_sub_eq_succ rfl))
       ·exact Bool.noConfusion (hr513 1 (Nat.lt_of_sub_eq_succ rfl))
       ·exact Bool.noConfusion (hr513 1 (Nat.lt_of_sub_eq_succ rfl))
       ·exact Bool.noConfusion (hr513 2 (Nat.lt_of_sub_eq_succ rfl))
       replace hS512 : St w0 Z (xrow Q437 Q438 93 1 ((setl (hdl Q439 t424) t138 (x508.1,((gt t424 t138) ++ ([(⟨t421,(gt t194 t255)⟩ : weirref14_Move)] : List weirref14_Move)).length,x508.2)).flatMap encH)::xrow x508.1 x508.2 95 4 (((gt t424 t138) ++ ([(⟨t421,(gt t194 t255)⟩ : weirref14_Move)] : List weirref14_Move)).flatMap enc_weirref14_Move)::xrow (some ⟨b503,0,none⟩) 1 95 4 (([(⟨t421,(gt t194 t255)⟩ : weirref14_Move)] : List weirref14_Move).flatMap enc_weirref14_Move)::xels (fun k => False ∨ k = t138.toNat) Q439 95 4 enc_weirref14_Move t424::xblk b14 43 ([.slice Q433 t422.length Q434,.slice Q435 t423.length Q436,.slice Q437 t424.length Q438,.slice Q440 t425.length Q441,.slice Q442 t426.length Q443,.slice Q444 t427.length Q445,.slice Q446 t428.length Q447,.bool t429,.map (some b9)])::xrow Q197 Q198 88 3 (t194.flatMap enc_api_Pick)::gs495) w511:=hS512
       subst hg496
       have hS515:=hS512.pick3
       have hS516:=hS515.pick2
       have hS517:=hS516.pick2
       have hS518:=hS517.rrBack g480
       refine rF [none,none,none,none,none,none,none,none,none,none,none,none,none,none,none,none,none,none,none,none,none,none,none,none,none,none,none,none,none,none,none,none,none,none,none,none,none,none,none,none,none,none,none,none,none,none,none,none,none,none,none,none,none,none,none,none,none,none,none,none,none,none,none,none,none,none,none,none,none,none,none,none,none,none,none,none,some (.slice Q437 t424.length Q438),none,none,some (.slice Q437 t424.length Q438),none,none,none,none,none,none,none,none,none,none,none,none,none] ?_
       refine Runs.refill (m':=[none,none,none,none,none,none,none,none,none,none,none,none,none,none,none,none,none,none,none,none,none,none,none,none,none,none,none,none,none,none,none,none,none,none,none,none,none,none,none,none,none,none,none,none,none,none,none,none,none,none,none,none,none,none,none,none,none,none,none,none,none,none,none,none,none,none,none,none,none,none,none,none,none,none,none,none,some (.slice Q437 (setl t424 t138 ((gt t424 t138) ++ ([(⟨t421,(gt t194 t255)⟩ : weirref14_Move)] : List weirref14_Move))).length Q438),none,none,some (.slice Q437 (setl t424 t138 ((gt t424 t138) ++ ([(⟨t421,(gt t194 t255)⟩ : weirref14_Move)] : List weirref14_Move))).length Q438),none,none,none,none,none,none,none,none,none,none,none,none,none]) (by simp only [setl_len]) ?_
       have hS519:=hS518.pick2
       have hS520:=hS519.eqblk (cs':=[.slice Q433 t422.length Q434,.slice Q435 t423.length Q436,.slice Q437 (setl t424 t138 ((gt t424 t138) ++ ([(⟨t421,(gt t194 t255)⟩ : weirref14_Move)] : List weirref14_Move))).length Q438,.slice Q440 t425.length Q441,.slice Q442 t426.length Q443,.slice Q444 t427.length Q445,.slice Q446 t428.length Q447,.bool t429,.map (some b9)]) (by simp only [setl_len])
       refine sR 6 td72 ?_
       have hS521:=hS520.pick2
       have hS522:=hS521.drop
       have hS523:=hS522.pick2
       have hS524:=hS523.pick9
       have hS525:=hS524.pick9
       have hS526:=hS525.pick9
       have hS527:=hS526.pick9
       have hS528:=hS527.pick9
       have hS529:=hS528.pick7
       have hS530:=hS529.pick9
       have hS531:=hS530.pick9
       have hS532:=hS531.pick9
       have hS533:=hS532.pick17
       have hS534:=hS533.pick16
       have hS535:=hS534.pick16
       have hS536:=hS535.pick16
       have hS537:=hS536.pick16
       have hS538:=hS537.pick16
       have hS539:=hS538.pick16
       have hS540:=hS539.pick17
       refine sR 1 td73 ?_
       exact rF _ (ih296 (IntKind.i64.wrap (t255 + 1)) t431 t329 t432 t430 t422 t423 (setl t424 t138 ((gt t424 t138) ++ ([(⟨t421,(gt t194 t255)⟩ : weirref14_Move)] : List weirref14_Move))) t425 t426 t427 t428 t429 _ hp510 he294 _ Q433 Q434 Q435 Q436 Q437 Q438 ((upd Q439 t138.toNat (x508.1,x508.2))) Q440 Q441 Q442 Q443 Q444 Q445 Q446 Q447 _ hS540)
      refine sR 9 td72 ?_
      have hS542:=hS476.pick16
      have hS543:=hS542.pick9
      have hS544:=hS543.pick8
      have hS545:=hS544.pick8
      have hS546:=hS545.pick8
      have hS547:=hS546.pick8
      have hS548:=hS547.pick8
      have hS549:=hS548.pick8
      have hS550:=hS549.pick8
      have hS551:=hS550.pick9
      have hS552:=hS551.pick17
      have hS553:=hS552.pick16
      have hS554:=hS553.pick16
      have hS555:=hS554.pick16
      have hS556:=hS555.pick16
      have hS557:=hS556.pick16
      have hS558:=hS557.pick16
      have hS559:=hS558.pick17
      refine sR 1 td73 ?_
      exact rF _ (ih296 (IntKind.i64.wrap (t255 + 1)) t431 t329 t432 t430 t422 t423 t424 t425 t426 t427 t428 t429 _ hp541 he294 _ Q433 Q434 Q435 Q436 Q437 Q438 (Q439) Q440 Q441 Q442 Q443 Q444 Q445 Q446 Q447 _ hS559)
     refine sR 3 td70 ?_
     have hS561:=hS291.pick17
     have hS562:=hS561.drop
     exact rF _ (J252 t256 t258 t257 t260 t264 t268 t273 t277 t281 t285 t289 t259 ((Option.some.inj hp560).trans he294) _ A261 c262 A265 c266 A269 c270 (h272) A274 c275 A278 c279 A282 c283 A286 c287 _ hS562)
    have hS563:=hS212.pick17
    have hS564:=hS563.pick17
    have hS565:=hS564.pick17
    have hS566:=hS565.pick17
    have hS567:=hS566.pick17
    have hS568:=hS567.pick17
    have hS569:=hS568.pick17
    have hS570:=hS569.pick17
    have hS571:=hS570.pick17
    have hS572:=hS571.pick17
    have hS573:=hS572.pick16
    have hS574:=hS573.pick16
    have hS575:=hS574.pick16
    have hS576:=hS575.pick16
    have hS577:=hS576.pick16
    have hS578:=hS577.pick16
    have hS579:=hS578.pick17
    exact rF _ (L298 0 t195 t142 t141 t143 t144 t148 t152 t157 t161 t165 t169 t173 _ hv214 rfl _ A145 c146 A149 c150 A153 c154 (h156) A158 c159 A162 c163 A166 c167 A170 c171 _ hS579)
   refine sR 3 td65 ?_
   have hS581:=hS175.drop
   have hS582:=hS581.pick5
   have hS583:=hS582.pick5
   have hS584:=hS583.pick5
   have hS585:=hS584.pick5
   have hS586:=hS585.pick5
   have hS587:=hS586.pick5
   have hS588:=hS587.pick15
   have hS589:=hS588.pick15
   have hS590:=hS589.pick15
   have hS591:=hS590.pick15
   have hS592:=hS591.pick15
   have hS593:=hS592.pick15
   have hS594:=hS593.pick15
   have hS595:=hS594.pick15
   have hS596:=hS595.pick15
   have hS597:=hS596.pick15
   exact rF _ (J130 t144 t148 t152 t157 t161 t165 t169 t173 t143 t139 t140 t141 t142 ((Option.some.inj hp580).trans he178) _ A145 c146 A149 c150 A153 c154 (h156) A158 c159 A162 c163 A166 c167 A170 c171 _ hS597)
  have hS598:=hS89.pick8
  have hS599:=hS598.pick7
  have hS600:=hS599.pick7
  have hS601:=hS600.pick7
  have hS602:=hS601.pick7
  have hS603:=hS602.pick7
  have hS604:=hS603.pick7
  have hS605:=hS604.pick7
  have hS606:=hS605.pick8
  have hS607:=hS606.pick15
  have hS608:=hS607.pick15
  have hS609:=hS608.pick15
  have hS610:=hS609.pick15
  have hS611:=hS610.pick15
  have hS612:=hS611.pick15
  have hS613:=hS612.pick15
  have hS614:=hS613.pick16
  exact rF _ (L182 0 t44 a0_1c0vv_0m t45 a0_1c0vv_2m t43 t35 t36 t37 t38 t39 t40 t41 t42 _ hv91 rfl _ Q46 Q47 Q48 Q49 Q50 Q51 (Q52) Q53 Q54 Q55 Q56 Q57 Q58 Q59 Q60 _ hS614)

noncomputable def cd16 (p : List Nat) : Code := sub (bodyOf Try.f16) p
def weirlaw14_reachable.f (a0 : weirlaw14_Net) : Option (List ByteArray) :=
  (weirlaw14_Net__machine.f a0 >>= (fun (t5,t6,t7,t8,t9,t10) => (weirref14_Lay.f t5 t6 t7 t8 t9 t10 70000 >>= (fun (t45,t46,t47,t48,t49,t50,t51,t52,t53,t54,t55,t56,t57) => some (t45)))))
theorem weirlaw14_reachable.ok {a0 : weirlaw14_Net} {y0 : Option Addr} {y1 : Nat} {y2 : Option Addr} {y3 : Nat} {y4 : Option Addr} {y5 : Nat} {q0 : List ByteArray} (hp0 : weirlaw14_reachable.f a0 = some q0) (hS0 : St w0 Z (fs) w) (y6 : SlZ (repL (flat (encI .i64)) 1) 1 Z y0 y1 a0.Next) (y7 : SlZ (flat encB) 1 Z y2 y3 a0.End) (y8 : SlZ (flat (encI .i64)) 1 Z y4 y5 a0.Value) :
    Calls Try.prog 16 #[.agg #[.slice y0 a0.Next.length y1,.slice y2 a0.End.length y3,.slice y4 a0.Value.length y5,.int .i64 a0.Start]] w (fun e w' => ∃ (QA0 : Option Addr) (Qc0 : Nat),e = .returned (.slice QA0 q0.length Qc0) ∧ St w0 Z (xrow QA0 Qc0 9 1 (q0.flatMap encS)::fs) w'):=by
  refine calls_abs ?_; intro R hR
  unfold weirlaw14_reachable.f at hp0
  refine calls_of_runs (fn:=Try.f16) (c:=cd16 []) Try.func16 (by kernel_rfl) (al:=[.agg #[.slice y0 a0.Next.length y1,.slice y2 a0.End.length y3,.slice y4 a0.Value.length y5,.int .i64 a0.Start]]) rfl (n:=12) rfl ?_
  refine sR 2 [.inRegion (opsOf (cd16 [0])) [0,1],.code (cd16 [1])] ?_
  refine r_box (c:=(cd16 [0])) (i:=0) (d:=(some 1)) (ty:=0) (x:=(.tmp 0)) (v:=.agg #[.slice y0 a0.Next.length y1,.slice y2 a0.End.length y3,.slice y4 a0.Value.length y5,.int .i64 a0.Start]) (t:=26) (cs:=[.slice y0 a0.Next.length y1,.slice y2 a0.End.length y3,.slice y4 a0.Value.length y5,.int .i64 a0.Start]) hS0 (by kernel_rfl) (by kernel_rfl) (by kernel_rfl) (by kernel_rfl) ?_
  intro b1 w2 hS3
  refine sR 4 [iR (cd16 [1,0]) 0 8,.code (cd16 [1,1])] ?_
  refine rLa 26 (.tmp 1) (hS3.blk 0 rfl) ?_
  obtain ⟨⟨t5,t6,t7,t8,t9,t10⟩,hr23,hp24⟩:=bind_some' hp0
  try dsimp only at hp24
  refine rC (weirlaw14_Net__machine.ok hr23 hS3 y6 y7 y8) ?_
  rintro _ w34 ⟨Q11,Q12,Q13,Q14,Q15,Q16,Q17,Q18,Q19,Q20,Q21,Q22,rfl,hS35,hs36,hs37,hs38⟩
  refine ⟨_,rfl,?_⟩
  refine sR 3 [.inRegion (opsOf (cd16 [1,0])) [5,6,7],.code (cd16 [1,1])] ?_
  refine rA 32 (.agg #[.string (⟨#[]⟩ : ByteArray),.nilFunc,.nilFunc,.nilFunc]) [.string (⟨#[]⟩ : ByteArray),.nilFunc,.nilFunc,.nilFunc] hS35 ?_
  intro b39 w40 hS41
  refine rS 32 (.tmp 3) (.tmp 8) 0 (.agg #[.string t5,.func (.func 28) #[] #[.pointer (some ⟨Q11,0,none⟩),.pointer (some ⟨Q16,0,none⟩)],.func (.func 31) #[] #[.pointer (some ⟨Q16,0,none⟩),.pointer (some ⟨Q11,0,none⟩)],.func (.func 32) #[] #[.pointer (some ⟨Q11,0,none⟩),.pointer (some ⟨Q16,0,none⟩)]]) [.string t5,.func (.func 28) #[] #[.pointer (some ⟨Q11,0,none⟩),.pointer (some ⟨Q16,0,none⟩)],.func (.func 31) #[] #[.pointer (some ⟨Q16,0,none⟩),.pointer (some ⟨Q11,0,none⟩)],.func (.func 32) #[] #[.pointer (some ⟨Q11,0,none⟩),.pointer (some ⟨Q16,0,none⟩)]] [.string t5,.func (.func 28) #[] #[.pointer (some ⟨Q11,0,none⟩),.pointer (some ⟨Q16,0,none⟩)],.func (.func 31) #[] #[.pointer (some ⟨Q16,0,none⟩),.pointer (some ⟨Q11,0,none⟩)],.func (.func 32) #[] #[.pointer (some ⟨Q11,0,none⟩),.pointer (some ⟨Q16,0,none⟩)]] hS41 ?_
  intro w43 hS44
  refine sR 4 [iR (cd16 [1,1,0]) 0 4,.code (cd16 [1,1,1])] ?_
  refine rLa 32 (.tmp 3) (hS44.blk 0 rfl) ?_
  obtain ⟨⟨t45,t46,t47,t48,t49,t50,t51,t52,t53,t54,t55,t56,t57⟩,hr74,hp75⟩:=bind_some' hp24
  try dsimp only at hp75
  have hS87:=hS44.pick6
  have hS88:=hS87.pick6
  have hS89:=hS88.pick6
  have hS90:=hS89.pick6
  have hS91:=hS90.pick6
  have hS92:=hS91.pick6
  refine rC (weirref14_Lay.ok hr74 hS92 hs36 hs37 hs38) ?_
  rintro _ w93 ⟨Q58,Q59,Q60,Q61,Q62,Q63,Q64,Q65,Q66,Q67,Q68,Q69,Q70,Q71,Q72,Q73,rfl,hS94⟩
  refine ⟨_,rfl,?_⟩
  refine sR 3 [.code (cd16 [1,1,1])] ?_
  have hS95:=hS94.pick1
  have hS96:=hS95.drop
  have hS97:=hS96.pick1
  have hS98:=hS97.drop
  have hS99:=hS98.pick1
  have hS100:=hS99.drop
  have hS101:=hS100.pick1
  have hS102:=hS101.drop
  have hS103:=hS102.pick1
  have hS104:=hS103.drop
  have hS105:=hS104.pick1
  have hS106:=hS105.drop
  have hS107:=hS106.pick1
  have hS108:=hS107.drop
  have hS109:=hS108.pick1
  have hS110:=hS109.drop
  have hS111:=hS110.pick1
  have hS112:=hS111.drop
  have hS113:=hS112.pick1
  have hS114:=hS113.drop
  have hS115:=hS114.pick1
  have hS116:=hS115.drop
  have hS117:=hS116.pick1
  have hS118:=hS117.drop
  have hS119:=hS118.pick1
  have hS120:=hS119.drop
  have hS121:=hS120.pick1
  have hS122:=hS121.drop
  have hS123:=hS122.pick1
  have hS124:=hS123.drop
  refine rR (.slice Q58 t45.length Q59) Try.func16 ?_
  cases Option.some.inj hp75
  exact hR _ _ ⟨Q58,Q59,rfl,hS124⟩

noncomputable def cd12 (p : List Nat) : Code := sub (bodyOf Try.f12) p
abbrev p12_14:=cd12 [1,1,1,1,1,0,1,0,0]
abbrev p12_16:=cd12 [1,1,1,1,1,0,1,0,0,0]
abbrev p12_20:=cd12 [1,1,1,1,1,0,1,0,0,1,1,0,1,0]
abbrev p12_21:=cd12 [1,1,1,1,1,0,1,0,0,1,1,0,1,1]
abbrev p12_22:=cd12 [1,1,1,1,1,0,1,0,0,1,1,0,1,1,0,1]
abbrev p12_23:=cd12 [1,1,1,1,0,1,0,0,0]
abbrev p12_27:=cd12 [1,1,1,1,0,1,0,0,1,1,0,1,0]
abbrev p12_28:=cd12 [1,1,1,1,0,1,0,0,1,1,0,1,1]
abbrev p12_29:=cd12 [1,1,1,1,0,1,0,0,1,1,0,1,1,0,1]
abbrev p12_33:=cd12 [1,1,1,0,1,0,0,1,0,0]
abbrev td76:List Item:=[.code (cd12 [1,1,1,1])]
abbrev td77:List Item:=.inBlock 0::td76
abbrev td78:List Item:=.inLoop (cd12 [1,1,1,0,1,0,0])::td77
abbrev td79:List Item:=.code (cd12 [1,1,1,0,1,0,0])::td78
abbrev td80:List Item:=[.code (cd12 [1,1,1,1,1])]
abbrev td81:List Item:=.inBlock 2::td80
abbrev td82:List Item:=.inLoop (cd12 [1,1,1,1,0,1,0,0])::td81
abbrev td83:List Item:=.code (cd12 [1,1,1,1,0,1,0,0])::td82
abbrev td84:List Item:=[.code (cd12 [1,1,1,1,1,1])]
abbrev td85:List Item:=.inBlock 4::td84
abbrev td86:List Item:=.inLoop p12_14::td85
abbrev td87:List Item:=.code p12_14::td86
abbrev td88:List Item:=.inBlock 5::td86
abbrev td89:List Item:=.inBlock 3::td82
def weirlaw14_Book__within.l2 (t10 t43 : List (ByteArray × Int)) : Option (Sum Unit (Bool × Bool)) :=
  (rngM (fun (t68,t69) => (if (((mget t10 t68).getD (0 : Int)) == 0) = true then some (.inr (.inr ((false,false)))) else some (.inl ()))) (some (.inl ())) t43)
def weirlaw14_Book__within.l1 (t10 t100 : List (ByteArray × Int)) : Option (Sum Unit (Bool × Bool)) :=
  (rngM (fun (t124,t125) => (if (((mget t10 t124).getD (0 : Int)) == 0) = true then some (.inr (.inr ((false,false)))) else some (.inl ()))) (some (.inl ())) t100)
def weirlaw14_Book__within.l0 (a1 : List ByteArray) (t156 : Int) (t157 : List (ByteArray × Int)) : Option (List (ByteArray × Int)) :=
  (if (decide (t156 < (a1.length : Int))) = true then (if 0 ≤ t156 ∧ t156 < (a1.length : Int) then (weirlaw14_Book__within.l0 a1 (IntKind.i64.wrap (t156 + 1)) (mput t157 (gt a1 t156) 1)) else none) else some (t157))
 partial_fixpoint
def weirlaw14_Book__within.f (a0v_0m a0v_1m a0v_2m : List (ByteArray × Int)) (y23 : Bool) (a1 : List ByteArray) : Option (Bool × Bool) :=
  (if y23 = true then some ((false,true)) else (weirlaw14_Book__within.l0 a1 0 ([] : List (ByteArray × Int)) >>= (fun t10 => (weirlaw14_Book__within.l1 t10 a0v_0m >>= (fun | .inl () => (weirlaw14_Book__within.l2 t10 a0v_1m >>= (fun | .inl () => some ((true,false)) | .inr e => some e)) | .inr e => some e)))))
theorem weirlaw14_Book__within.ok {a0v_0m a0v_1m a0v_2m : List (ByteArray × Int)} {y23 : Bool} {a1 : List ByteArray} {ba0 y45 : Nat} {y46 y47 : Nat} {Aa1 : Option Addr} {ca1 : Nat} {q0 q1 : Bool} (hp0 : weirlaw14_Book__within.f a0v_0m a0v_1m a0v_2m y23 a1 = some (q0,q1)) (hS0 : St w0 Z (xblk ba0 49 ([.map (some y45),.map (some y46),.map (some y47),.bool y23])::xmap y45 (a0v_0m.map (kv Value.string (Value.int .i64)))::xmap y46 (a0v_1m.map (kv Value.string (Value.int .i64)))::xmap y47 (a0v_2m.map (kv Value.string (Value.int .i64)))::fs) w) (ha1 : SlZ (flat encS) 1 Z Aa1 ca1 a1) :
    Calls Try.prog 12 #[.pointer (some ⟨ba0,0,none⟩),.slice Aa1 a1.length ca1] w (fun e w' => e = .returned (.bool q0) ∧ St w0 Z (xblk ba0 49 ([.map (some y45),.map (some y46),.map (some y47),.bool q1])::xmap y45 (a0v_0m.map (kv Value.string (Value.int .i64)))::xmap y46 (a0v_1m.map (kv Value.string (Value.int .i64)))::xmap y47 (a0v_2m.map (kv Value.string (Value.int .i64)))::fs) w'):=by
  refine calls_abs ?_; intro R hR
  unfold weirlaw14_Book__within.f at hp0
  refine calls_of_runs (fn:=Try.f12) (c:=cd12 []) Try.func12 (by kernel_rfl) (al:=[.pointer (some ⟨ba0,0,none⟩),.slice Aa1 a1.length ca1]) rfl (n:=49) rfl ?_
  refine sR 10 [.inRegion (opsOf (cd12 [1,0,0])) [3],.code (cd12 [1,0,1]),.code (cd12 [1,1])] ?_
  refine rL1 4 (.tmp 11) 3 (hS0.blk 0 rfl) ?_
  refine sR 1 [.code (cd12 [1,0,1]),.code (cd12 [1,1])] ?_
  cases y23
  ·have hp1:=ite_f hp0 rfl
   refine sR 4 [.inRegion (opsOf (cd12 [1,1,0])) [0,1],.code (cd12 [1,1,1])] ?_
   refine r_makeMap (c:=(cd12 [1,1,0])) (i:=0) (d:=(some 13)) (ty:=41) (t:=41) hS0 (by kernel_rfl) (by kernel_rfl) ?_
   intro b2 w3 hS4
   have hS6 : St w0 Z (xmap b2 (([] : List (ByteArray × Int)).map (kv Value.string (Value.int .i64)))::xblk ba0 49 ([.map (some y45),.map (some y46),.map (some y47),.bool false])::xmap y45 (a0v_0m.map (kv Value.string (Value.int .i64)))::xmap y46 (a0v_1m.map (kv Value.string (Value.int .i64)))::xmap y47 (a0v_2m.map (kv Value.string (Value.int .i64)))::fs) w3:=hS4
   refine sR 9 td79 ?_
   obtain ⟨v7,hv8,hp9⟩:=bind_some' hp1
   have J13 : ∀ (t10 : List (ByteArray × Int)) (he15 : t10 = v7) (l14 : List Value) (w11 : World) (hS12 : St w0 Z (xblk ba0 49 ([.map (some y45),.map (some y46),.map (some y47),.bool false])::xmap y45 (a0v_0m.map (kv Value.string (Value.int .i64)))::xmap y46 (a0v_1m.map (kv Value.string (Value.int .i64)))::xmap y47 (a0v_2m.map (kv Value.string (Value.int .i64)))::xmap b2 (t10.map (kv Value.string (Value.int .i64)))::fs) w11),Runs Try.prog (fx 12) td76 (fill (mk 51 [(0,.pointer (some ⟨ba0,0,none⟩)),(5,.map (some b2))]) l14) w11 R:=by
    intro t10 he15 l14 w11 hS12
    subst he15
    try dsimp only at hp9
    refine sR 6 (.inRegion (opsOf (cd12 [1,1,1,1,0,0])) [3,4]::.code (cd12 [1,1,1,1,0,1])::td80) ?_
    refine rL1 41 (.tmp 27) 0 (hS12.blk 0 rfl) ?_
    have hS16:=hS12.pick1
    refine r_rangeM (c:=(cd12 [1,1,1,1,0,0])) (i:=4) (d:=(some 29)) (ty:=0) (t:=41) (kt:=9) (et:=3) (x:=(.tmp 28)) hS16 (by kernel_rfl) (by kernel_rfl) (by kernel_rfl) (by kernel_rfl) ?_
    intro it17 w18 hS19
    refine sR 3 td83 ?_
    obtain ⟨v20,hv21,hp22⟩:=bind_some' hp9
    have hq25 : ∀ x,Sum.inr x = v20 → x = (q0,q1):=by intro x hx; subst hx; simpa using hp22
    have J26 : ∀ (he28 : Sum.inl () = v20) (l27 : List Value) (w23 : World) (hS24 : St w0 Z (xblk ba0 49 ([.map (some y45),.map (some y46),.map (some y47),.bool false])::xmap y45 (a0v_0m.map (kv Value.string (Value.int .i64)))::xmap y46 (a0v_1m.map (kv Value.string (Value.int .i64)))::xmap y47 (a0v_2m.map (kv Value.string (Value.int .i64)))::xmap b2 (t10.map (kv Value.string (Value.int .i64)))::fs) w23),Runs Try.prog (fx 12) td80 (fill (mk 51 [(0,.pointer (some ⟨ba0,0,none⟩)),(5,.map (some b2))]) l27) w23 R:=by
     intro he28 l27 w23 hS24
     subst he28
     try dsimp only at hp22
     refine sR 6 (.inRegion (opsOf (cd12 [1,1,1,1,1,0,0])) [3,4]::.code (cd12 [1,1,1,1,1,0,1])::td84) ?_
     refine rL1 41 (.tmp 40) 1 (hS24.blk 0 rfl) ?_
     have hS29:=hS24.pick2
     refine r_rangeM (c:=(cd12 [1,1,1,1,1,0,0])) (i:=4) (d:=(some 42)) (ty:=0) (t:=41) (kt:=9) (et:=3) (x:=(.tmp 41)) hS29 (by kernel_rfl) (by kernel_rfl) (by kernel_rfl) (by kernel_rfl) ?_
     intro it30 w31 hS32
     refine sR 3 td87 ?_
     obtain ⟨v33,hv34,hp35⟩:=bind_some' hp22
     have hq38 : ∀ x,Sum.inr x = v33 → x = (q0,q1):=by intro x hx; subst hx; simpa using hp35
     have J39 : ∀ (he41 : Sum.inl () = v33) (l40 : List Value) (w36 : World) (hS37 : St w0 Z (xblk ba0 49 ([.map (some y45),.map (some y46),.map (some y47),.bool false])::xmap y45 (a0v_0m.map (kv Value.string (Value.int .i64)))::xmap y46 (a0v_1m.map (kv Value.string (Value.int .i64)))::xmap y47 (a0v_2m.map (kv Value.string (Value.int .i64)))::fs) w36),Runs Try.prog (fx 12) td84 (fill (mk 51 []) l40) w36 R:=by
      intro he41 l40 w36 hS37
      subst he41
      try dsimp only at hp35
      refine sR 4 [.code (cd12 [1,1,1,1,1,1,1])] ?_
      refine rR (.bool true) Try.func12 ?_
      cases Option.some.inj hp35
      exact hR _ _ ⟨rfl,hS37⟩
     have L51 : ∀ (t43 : List (ByteArray × Int)) (e47 : Sum Unit (Bool × Bool)),weirlaw14_Book__within.l2 t10 t43 = some e47 → e47 = v33 → ∀ (l46 : List Value) (w44 : World) (hS45 : St w0 Z (xmap b2 (t10.map (kv Value.string (Value.int .i64)))::xmr y46 it30 (a0v_1m.map (kv Value.string (Value.int .i64))) (t43.map (kv Value.string (Value.int .i64))) none::xblk ba0 49 ([.map (some y45),.map (some y46),.map (some y47),.bool false])::xmap y45 (a0v_0m.map (kv Value.string (Value.int .i64)))::xmap y47 (a0v_2m.map (kv Value.string (Value.int .i64)))::fs) w44),Runs Try.prog (fx 12) td87 (fill (mk 51 [(5,.map (some b2)),(42,.pointer (some ⟨it30,0,none⟩))]) l46) w44 R:=by
      refine rng_ind ?_
      intro t43 ih50 e47 hb49 he48 l46 w44 hS45
      unfold weirlaw14_Book__within.l2 at hb49
      have hq52 : ∀ x,Sum.inr x = e47 → x = (q0,q1):=fun x hx => hq38 x (hx.trans he48)
      refine sR 2 (.inRegion (opsOf p12_16) [0,1]::.code (cd12 [1,1,1,1,1,0,1,0,0,1])::td86) ?_
      have hS53:=hS45.pick1
      refine r_nextM (c:=p12_16) (i:=0) (d:=(some 43)) (ty:=0) (x:=(.tmp 42)) hS53 (by kernel_rfl) (by kernel_rfl) (by kernel_rfl) ?_ ?_
      ·intro hn54; obtain rfl:=List.map_eq_nil_iff.1 hn54
       have hp55:=rng_nil hb49
       have hS56:=hS53.mrShut
       refine sR 5 td84 ?_
       have hS57:=hS56.pick1
       have hS58:=hS57.drop
       have hS59:=hS58.pick3
       have hS60:=hS59.pick1
       have hS61:=hS60.pick3
       have hS62:=hS61.pick3
       exact rF _ (J39 ((Option.some.inj hp55).trans he48) _ _ hS62)
      intro j63 kx64 hj65 w66 hS67; obtain ⟨⟨t68,t69⟩,hj70,rfl,hl71⟩:=kv_at hj65; rw [kv_erase] at hS67
      obtain ⟨q72,hp73,hq74⟩:=rng_step hb49 hj70; have hq75:=rng_out hq74; try dsimp only at hp73
      have hS76 : St w0 Z (xmr y46 it30 (a0v_1m.map (kv Value.string (Value.int .i64))) ((t43.eraseIdx j63).map (kv Value.string (Value.int .i64))) (some (kv Value.string (Value.int .i64) (t68,t69)))::xmap b2 (t10.map (kv Value.string (Value.int .i64)))::xblk ba0 49 ([.map (some y45),.map (some y46),.map (some y47),.bool false])::xmap y45 (a0v_0m.map (kv Value.string (Value.int .i64)))::xmap y47 (a0v_2m.map (kv Value.string (Value.int .i64)))::fs) w66:=hS67
      refine sR 8 (.inRegion (opsOf (cd12 [1,1,1,1,1,0,1,0,0,1,1,0,0])) [0,1,2]::.code (cd12 [1,1,1,1,1,0,1,0,0,1,1,0,1])::td88) ?_
      refine rV (.entry (.tmp 42)) (.tuple #[.string t68,.int .i64 t69]) (fun o ho _ => x_entryM (hS76.at 0 rfl) (by kernel_rfl) ho) ?_
      refine sR 7 (.inRegion (opsOf p12_20) [2,3]::.code p12_21::td88) ?_
      refine rV (.lookup 41 (.tmp 47) (.tmp 48) false) (.int .i64 ((mget t10 t68).getD (0 : Int))) (fun o ho _ => x_lookup1 (eK:=Value.string) (eV:=(Value.int .i64)) (dk:=.string) (b:=b2) (t:=41) (kt:=9) (et:=3) (m:=t10) (kk:=t68) (z:=(0 : Int)) (hS76.at 1 rfl) key_str (by kernel_rfl) (by kernel_rfl) (by kernel_rfl) (by kernel_rfl) (by kernel_rfl) ho) ?_
      refine sI 1 (.inRegion (opsOf p12_20) []::.code p12_21::td88) 50 hp73 (fun hp79 => ?_) fun hp88 => ?_
      ·refine sR 6 (.code p12_22::td88) ?_
       refine r_isret (c:=p12_22) (by kernel_rfl) ?_
       have hS80:=hS76.mrShut
       have hS81:=hS80.pick1
       have hS82:=hS81.drop
       have hS83:=hS82.pick3
       have hS84:=hS83.pick1
       have hS85:=hS84.pick3
       have hS86:=hS85.pick3
       refine rR (.bool false) Try.func12 ?_
       cases hq52 _ (hq75 _ (Option.some.inj hp79))
       exact hR _ _ ⟨rfl,hS86⟩
      refine sR 4 td86 ?_
      have hS89:=hS76.mrOn
      have hS90:=hS89.pick4
      have hS91:=hS90.pick4
      have hS92:=hS91.pick4
      have hS93:=hS92.pick3
      have hS94:=hS93.pick4
      refine sR 1 td87 ?_
      exact rF _ (ih50 j63 hl71 _ (rng_on hq74 (Option.some.inj hp88)) he48 _ _ hS94)
     have hS95:=hS32.pick3
     have hS96:=hS95.pick3
     have hS97:=hS96.pick3
     have hS98:=hS97.pick3
     have hS99:=hS98.pick4
     exact rF _ (L51 a0v_1m _ hv34 rfl _ _ hS99)
    have L108 : ∀ (t100 : List (ByteArray × Int)) (e104 : Sum Unit (Bool × Bool)),weirlaw14_Book__within.l1 t10 t100 = some e104 → e104 = v20 → ∀ (l103 : List Value) (w101 : World) (hS102 : St w0 Z (xblk ba0 49 ([.map (some y45),.map (some y46),.map (some y47),.bool false])::xmr y45 it17 (a0v_0m.map (kv Value.string (Value.int .i64))) (t100.map (kv Value.string (Value.int .i64))) none::xmap y46 (a0v_1m.map (kv Value.string (Value.int .i64)))::xmap y47 (a0v_2m.map (kv Value.string (Value.int .i64)))::xmap b2 (t10.map (kv Value.string (Value.int .i64)))::fs) w101),Runs Try.prog (fx 12) td83 (fill (mk 51 [(0,.pointer (some ⟨ba0,0,none⟩)),(5,.map (some b2)),(29,.pointer (some ⟨it17,0,none⟩))]) l103) w101 R:=by
     refine rng_ind ?_
     intro t100 ih107 e104 hb106 he105 l103 w101 hS102
     unfold weirlaw14_Book__within.l1 at hb106
     have hq109 : ∀ x,Sum.inr x = e104 → x = (q0,q1):=fun x hx => hq25 x (hx.trans he105)
     refine sR 2 (.inRegion (opsOf p12_23) [0,1]::.code (cd12 [1,1,1,1,0,1,0,0,1])::td82) ?_
     have hS110:=hS102.pick1
     refine r_nextM (c:=p12_23) (i:=0) (d:=(some 30)) (ty:=0) (x:=(.tmp 29)) hS110 (by kernel_rfl) (by kernel_rfl) (by kernel_rfl) ?_ ?_
     ·intro hn111; obtain rfl:=List.map_eq_nil_iff.1 hn111
      have hp112:=rng_nil hb106
      have hS113:=hS110.mrShut
      refine sR 5 td80 ?_
      have hS114:=hS113.pick4
      have hS115:=hS114.pick4
      have hS116:=hS115.pick4
      have hS117:=hS116.pick3
      have hS118:=hS117.pick4
      exact rF _ (J26 ((Option.some.inj hp112).trans he105) _ _ hS118)
     intro j119 kx120 hj121 w122 hS123; obtain ⟨⟨t124,t125⟩,hj126,rfl,hl127⟩:=kv_at hj121; rw [kv_erase] at hS123
     obtain ⟨q128,hp129,hq130⟩:=rng_step hb106 hj126; have hq131:=rng_out hq130; try dsimp only at hp129
     have hS132 : St w0 Z (xmr y45 it17 (a0v_0m.map (kv Value.string (Value.int .i64))) ((t100.eraseIdx j119).map (kv Value.string (Value.int .i64))) (some (kv Value.string (Value.int .i64) (t124,t125)))::xblk ba0 49 ([.map (some y45),.map (some y46),.map (some y47),.bool false])::xmap y46 (a0v_1m.map (kv Value.string (Value.int .i64)))::xmap y47 (a0v_2m.map (kv Value.string (Value.int .i64)))::xmap b2 (t10.map (kv Value.string (Value.int .i64)))::fs) w122:=hS123
     refine sR 8 (.inRegion (opsOf (cd12 [1,1,1,1,0,1,0,0,1,1,0,0])) [0,1,2]::.code (cd12 [1,1,1,1,0,1,0,0,1,1,0,1])::td89) ?_
     refine rV (.entry (.tmp 29)) (.tuple #[.string t124,.int .i64 t125]) (fun o ho _ => x_entryM (hS132.at 0 rfl) (by kernel_rfl) ho) ?_
     refine sR 7 (.inRegion (opsOf p12_27) [2,3]::.code p12_28::td89) ?_
     refine rV (.lookup 41 (.tmp 34) (.tmp 35) false) (.int .i64 ((mget t10 t124).getD (0 : Int))) (fun o ho _ => x_lookup1 (eK:=Value.string) (eV:=(Value.int .i64)) (dk:=.string) (b:=b2) (t:=41) (kt:=9) (et:=3) (m:=t10) (kk:=t124) (z:=(0 : Int)) (hS132.at 4 rfl) key_str (by kernel_rfl) (by kernel_rfl) (by kernel_rfl) (by kernel_rfl) (by kernel_rfl) ho) ?_
     refine sI 1 (.inRegion (opsOf p12_27) []::.code p12_28::td89) 37 hp129 (fun hp135 => ?_) fun hp144 => ?_
     ·refine sR 6 (.code p12_29::td89) ?_
      refine r_isret (c:=p12_29) (by kernel_rfl) ?_
      have hS136:=hS132.mrShut
      have hS137:=hS136.pick4
      have hS138:=hS137.drop
      have hS139:=hS138.pick3
      have hS140:=hS139.pick3
      have hS141:=hS140.pick2
      have hS142:=hS141.pick3
      refine rR (.bool false) Try.func12 ?_
      cases hq109 _ (hq131 _ (Option.some.inj hp135))
      exact hR _ _ ⟨rfl,hS142⟩
     refine sR 4 td82 ?_
     have hS145:=hS132.mrOn
     have hS146:=hS145.pick4
     have hS147:=hS146.pick4
     have hS148:=hS147.pick4
     have hS149:=hS148.pick3
     have hS150:=hS149.pick4
     refine sR 1 td83 ?_
     exact rF _ (ih107 j119 hl127 _ (rng_on hq130 (Option.some.inj hp144)) he105 _ _ hS150)
    have hS151:=hS19.pick4
    have hS152:=hS151.pick4
    have hS153:=hS152.pick4
    have hS154:=hS153.pick3
    have hS155:=hS154.pick4
    exact rF _ (L108 a0v_0m _ hv21 rfl _ _ hS155)
   have L166 : ∀ (t156 : Int) (t157 : List (ByteArray × Int)) (e161 : (List (ByteArray × Int))),weirlaw14_Book__within.l0 a1 t156 t157 = some e161 → e161 = v7 → ∀ (l160 : List Value) (w158 : World) (hS159 : St w0 Z (xblk ba0 49 ([.map (some y45),.map (some y46),.map (some y47),.bool false])::xmap y45 (a0v_0m.map (kv Value.string (Value.int .i64)))::xmap y46 (a0v_1m.map (kv Value.string (Value.int .i64)))::xmap y47 (a0v_2m.map (kv Value.string (Value.int .i64)))::xmap b2 (t157.map (kv Value.string (Value.int .i64)))::fs) w158),Runs Try.prog (fx 12) td79 (fill (mk 51 [(0,.pointer (some ⟨ba0,0,none⟩)),(1,.slice Aa1 a1.length ca1),(5,.map (some b2)),(6,.int .i64 t156)]) l160) w158 R:=by
    refine weirlaw14_Book__within.l0.partial_correctness a1 (fun t156 t157 e161 => e161 = v7 → ∀ (l160 : List Value) (w158 : World) (hS159 : St w0 Z (xblk ba0 49 ([.map (some y45),.map (some y46),.map (some y47),.bool false])::xmap y45 (a0v_0m.map (kv Value.string (Value.int .i64)))::xmap y46 (a0v_1m.map (kv Value.string (Value.int .i64)))::xmap y47 (a0v_2m.map (kv Value.string (Value.int .i64)))::xmap b2 (t157.map (kv Value.string (Value.int .i64)))::fs) w158),Runs Try.prog (fx 12) td79 (fill (mk 51 [(0,.pointer (some ⟨ba0,0,none⟩)),(1,.slice Aa1 a1.length ca1),(5,.map (some b2)),(6,.int .i64 t156)]) l160) w158 R) ?_
    intro rec165 ih164 t156 t157 e161 hb163 he162 l160 w158 hS159
    refine sI 7 (.inRegion (opsOf (cd12 [1,1,1,0,1,0,0,0,0])) []::.code (cd12 [1,1,1,0,1,0,0,0,1])::.code (cd12 [1,1,1,0,1,0,0,1])::td78) 17 hb163 (fun hp169 => ?_) fun hp183 => ?_
    ·refine sR 9 (.inRegion (opsOf p12_33) [3,4,5]::.inBlock 1::.code (cd12 [1,1,1,0,1,0,0,1,1])::td78) ?_
     obtain ⟨g170,hp171⟩:=ite_some hp169
     obtain ⟨b172,p173,hA174,hc175⟩:=ha1.atF g170.1 g170.2
     refine r_indexAddr (c:=p12_33) (i:=3) (d:=(some 23)) (ty:=0) (t:=36) (e:=9) (n:=a1.length) (cp:=ca1) (sz:=1) (kk:=.i64) (x:=(.tmp 21)) (y:=(.tmp 22)) (b:=b172) (o':=p173) (j:=t156) (by kernel_rfl) (by kernel_rfl) (slv (by kernel_rfl) hA174) (by kernel_rfl) (by kernel_rfl) (by kernel_rfl) g170.1 g170.2 ?_
     refine rL1 9 (.tmp 23) 0 (hc175.cells hS159) ?_
     have hS176:=hS159.pick4
     refine r_mapUpdate (c:=p12_33) (i:=5) (d:=none) (ty:=0) (eK:=Value.string) (eV:=(Value.int .i64)) (dk:=.string) (b:=b2) (t:=41) (kt:=9) (et:=3) (x:=(.tmp 20)) (y:=(.tmp 24)) (z:=(.const (.int .i64 1))) (m:=t157) (kk:=(gt a1 t156)) (v:=1) hS176 (by kernel_rfl) (by kernel_rfl) key_str (by kernel_rfl) (by kernel_rfl) (by kernel_rfl) (by kernel_rfl) (by kernel_rfl) ?_
     intro w177 hS178
     refine sR 7 td78 ?_
     have hS179:=hS178.pick4
     have hS180:=hS179.pick4
     have hS181:=hS180.pick4
     have hS182:=hS181.pick4
     refine sR 1 td79 ?_
     exact rF _ (ih164 (IntKind.i64.wrap (t156 + 1)) (mput t157 (gt a1 t156) 1) _ hp171 he162 _ _ hS182)
    refine sR 3 td76 ?_
    exact rF _ (J13 t157 ((Option.some.inj hp183).trans he162) _ _ hS159)
   have hS184:=hS6.pick4
   have hS185:=hS184.pick4
   have hS186:=hS185.pick4
   have hS187:=hS186.pick4
   exact rF _ (L166 0 ([] : List (ByteArray × Int)) _ hv8 rfl _ _ hS187)
  have hp188:=ite_t hp0 rfl
  refine sR 5 [.code (cd12 [1,0,1,0,1]),.code (cd12 [1,1])] ?_
  refine rR (.bool false) Try.func12 ?_
  cases Option.some.inj hp188
  exact hR _ _ ⟨rfl,hS0⟩

noncomputable def cd37 (p : List Nat) : Code := sub (bodyOf Try.f37) p
abbrev p37_5:=cd37 [1,1,0,0,0,0,0]
abbrev p37_8:=cd37 [1,1,0,0,0,1,0,0]
abbrev p37_9:=cd37 [1,1,0,0,0,1,0,1]
abbrev td90:List Item:=[.code (cd37 [1,1,1])]
abbrev td91:List Item:=.inBlock 0::td90
abbrev td92:List Item:=.inLoop (cd37 [1,1,0,0,0])::td91
abbrev td93:List Item:=.code (cd37 [1,1,0,0,0])::td92
abbrev td94:List Item:=.code (cd37 [1,1,0,0,0,1])::td92
abbrev td95:List Item:=.code (cd37 [1,1,0,0,0,0,1])::td94
abbrev td96:List Item:=.inBlock 1::td92
abbrev td97:List Item:=.code p37_9::td96
def weirref14_Graph__way.l0 (y48 : List Int) (y49 : List api_Pick) (t18 : Int) (t19 : List api_Pick) : Option (List api_Pick) :=
  (if 0 ≤ t18 ∧ t18 < (y48.length : Int) then (if (decide ((gt y48 t18) ≥ 0)) = true then (if 0 ≤ t18 ∧ t18 < (y49.length : Int) then (if (([(gt y49 t18)] : List api_Pick).length + t19.length) * 24 ≤ 140737488355328 then (if 0 ≤ t18 ∧ t18 < (y48.length : Int) then (weirref14_Graph__way.l0 y48 y49 (gt y48 t18) (([(gt y49 t18)] : List api_Pick) ++ t19)) else none) else none) else none) else some (t19)) else none)
 partial_fixpoint
def weirref14_Graph__way.f (y9 : List ByteArray) (y50 : List Int) (y51 : List (List weirref14_Move)) (y52 : List Bool) (y53 : List api_Final) (y48 : List Int) (y49 : List api_Pick) (y54 : Bool) (a0_8m : List (ByteArray × Int)) (a1 : Int) : Option (List api_Pick) :=
  (weirref14_Graph__way.l0 y48 y49 a1 [] >>= (fun t8 => some (t8)))
theorem weirref14_Graph__way.ok {y9 : List ByteArray} {y50 : List Int} {y51 : List (List weirref14_Move)} {y52 : List Bool} {y53 : List api_Final} {y48 : List Int} {y49 : List api_Pick} {y54 : Bool} {a0_8m : List (ByteArray × Int)} {a1 : Int} {y0 : Option Addr} {y1 : Nat} {y2 : Option Addr} {y3 : Nat} {y4 : Option Addr} {y5 : Nat} {y55 : Option Addr} {y56 : Nat} {y57 : Option Addr} {y58 : Nat} {y59 : Option Addr} {y60 : Nat} {y61 : Option Addr} {y62 y63 : Nat} {q0 : List api_Pick} (hp0 : weirref14_Graph__way.f y9 y50 y51 y52 y53 y48 y49 y54 a0_8m a1 = some q0) (hS0 : St w0 Z (xmap y63 (a0_8m.map (kv Value.string (Value.int .i64)))::fs) w) (y6 : SlZ (flat encS) 1 Z y0 y1 y9) (y7 : SlZ (flat (encI .i64)) 1 Z y2 y3 y50) (y8 : SlZ (repL (flat enc_weirref14_Move) 4) 1 Z y4 y5 y51) (y64 : SlZ (flat encB) 1 Z y55 y56 y52) (y65 : SlZ (flat enc_api_Final) 49 Z y57 y58 y53) (y66 : SlZ (flat (encI .i64)) 1 Z y59 y60 y48) (y67 : SlZ (flat enc_api_Pick) 3 Z y61 y62 y49) :
    Calls Try.prog 37 #[.agg #[.slice y0 y9.length y1,.slice y2 y50.length y3,.slice y4 y51.length y5,.slice y55 y52.length y56,.slice y57 y53.length y58,.slice y59 y48.length y60,.slice y61 y49.length y62,.bool y54,.map (some y63)],.int .i64 a1] w (fun e w' => ∃ (QA0 : Option Addr) (Qc0 : Nat),e = .returned (.slice QA0 q0.length Qc0) ∧ St w0 Z (xrow QA0 Qc0 88 3 (q0.flatMap enc_api_Pick)::xmap y63 (a0_8m.map (kv Value.string (Value.int .i64)))::fs) w'):=by
  refine calls_abs ?_; intro R hR
  unfold weirref14_Graph__way.f at hp0
  refine calls_of_runs (fn:=Try.f37) (c:=cd37 []) Try.func37 (by kernel_rfl) (al:=[.agg #[.slice y0 y9.length y1,.slice y2 y50.length y3,.slice y4 y51.length y5,.slice y55 y52.length y56,.slice y57 y53.length y58,.slice y59 y48.length y60,.slice y61 y49.length y62,.bool y54,.map (some y63)],.int .i64 a1]) rfl (n:=24) rfl ?_
  refine sR 2 [.inRegion (opsOf (cd37 [0])) [0,1],.code (cd37 [1])] ?_
  refine r_box (c:=(cd37 [0])) (i:=0) (d:=(some 2)) (ty:=0) (x:=(.tmp 0)) (v:=.agg #[.slice y0 y9.length y1,.slice y2 y50.length y3,.slice y4 y51.length y5,.slice y55 y52.length y56,.slice y57 y53.length y58,.slice y59 y48.length y60,.slice y61 y49.length y62,.bool y54,.map (some y63)]) (t:=43) (cs:=[.slice y0 y9.length y1,.slice y2 y50.length y3,.slice y4 y51.length y5,.slice y55 y52.length y56,.slice y57 y53.length y58,.slice y59 y48.length y60,.slice y61 y49.length y62,.bool y54,.map (some y63)]) hS0 (by kernel_rfl) (by kernel_rfl) (by kernel_rfl) (by kernel_rfl) ?_
  intro b1 w2 hS3
  refine sR 9 td93 ?_
  obtain ⟨v5,hv6,hp7⟩:=bind_some' hp0
  have J14 : ∀ (t8 : List api_Pick) (he16 : t8 = v5) (l15 : List Value) (A9 : Option Addr) (c10 : Nat) (w12 : World) (hS13 : St w0 Z (xrow A9 c10 88 3 (t8.flatMap enc_api_Pick)::xmap y63 (a0_8m.map (kv Value.string (Value.int .i64)))::fs) w12),Runs Try.prog (fx 37) td90 (fill (mk 26 [(5,.slice A9 t8.length c10)]) l15) w12 R:=by
   intro t8 he16 l15 A9 c10 w12 hS13
   subst he16
   try dsimp only at hp7
   refine sR 5 [.code (cd37 [1,1,1,1])] ?_
   refine rR (.slice A9 t8.length c10) Try.func37 ?_
   cases Option.some.inj hp7
   exact hR _ _ ⟨A9,c10,rfl,hS13⟩
  have L31 : ∀ (t18 : Int) (t19 : List api_Pick) (e26 : (List api_Pick)),weirref14_Graph__way.l0 y48 y49 t18 t19 = some e26 → e26 = v5 → ∀ (l25 : List Value) (A20 : Option Addr) (c21 : Nat) (w23 : World) (hS24 : St w0 Z (xblk b1 43 ([.slice y0 y9.length y1,.slice y2 y50.length y3,.slice y4 y51.length y5,.slice y55 y52.length y56,.slice y57 y53.length y58,.slice y59 y48.length y60,.slice y61 y49.length y62,.bool y54,.map (some y63)])::xmap y63 (a0_8m.map (kv Value.string (Value.int .i64)))::xrow A20 c21 88 3 (t19.flatMap enc_api_Pick)::fs) w23),Runs Try.prog (fx 37) td93 (fill (mk 26 [(1,.int .i64 t18),(2,.pointer (some ⟨b1,0,none⟩)),(5,.slice A20 t19.length c21)]) l25) w23 R:=by
   refine weirref14_Graph__way.l0.partial_correctness y48 y49 (fun t18 t19 e26 => e26 = v5 → ∀ (l25 : List Value) (A20 : Option Addr) (c21 : Nat) (w23 : World) (hS24 : St w0 Z (xblk b1 43 ([.slice y0 y9.length y1,.slice y2 y50.length y3,.slice y4 y51.length y5,.slice y55 y52.length y56,.slice y57 y53.length y58,.slice y59 y48.length y60,.slice y61 y49.length y62,.bool y54,.map (some y63)])::xmap y63 (a0_8m.map (kv Value.string (Value.int .i64)))::xrow A20 c21 88 3 (t19.flatMap enc_api_Pick)::fs) w23),Runs Try.prog (fx 37) td93 (fill (mk 26 [(1,.int .i64 t18),(2,.pointer (some ⟨b1,0,none⟩)),(5,.slice A20 t19.length c21)]) l25) w23 R) ?_
   intro rec30 ih29 t18 t19 e26 hb28 he27 l25 A20 c21 w23 hS24
   refine sR 4 (iR p37_5 1 5::td95) ?_
   refine rL1 37 (.tmp 6) 5 (hS24.blk 0 rfl) ?_
   refine sR 1 (.inRegion (opsOf p37_5) [3,4,5]::td95) ?_
   obtain ⟨g32,hp33⟩:=ite_some hb28
   obtain ⟨b34,p35,hA36,hc37⟩:=y66.atF g32.1 g32.2
   refine r_indexAddr (c:=p37_5) (i:=3) (d:=(some 9)) (ty:=0) (t:=37) (e:=3) (n:=y48.length) (cp:=y60) (sz:=1) (kk:=.i64) (x:=(.tmp 7)) (y:=(.tmp 8)) (b:=b34) (o':=p35) (j:=t18) (by kernel_rfl) (by kernel_rfl) (slv (by kernel_rfl) hA36) (by kernel_rfl) (by kernel_rfl) (by kernel_rfl) g32.1 g32.2 ?_
   refine rL1 3 (.tmp 9) 0 (hc37.cells hS24) ?_
   refine sI 1 (.inRegion (opsOf p37_5) []::td95) 11 hp33 (fun hp40 => ?_) fun hp68 => ?_
   ·refine sR 7 (iR p37_8 1 8::td97) ?_
    refine rL1 40 (.tmp 12) 6 (hS24.blk 0 rfl) ?_
    refine sR 1 (iR p37_8 3 6::td97) ?_
    obtain ⟨g41,hp42⟩:=ite_some hp40
    obtain ⟨b43,p44,hA45,hc46⟩:=y67.atF g41.1 g41.2
    refine r_indexAddr (c:=p37_8) (i:=3) (d:=(some 15)) (ty:=0) (t:=40) (e:=88) (n:=y49.length) (cp:=y62) (sz:=3) (kk:=.i64) (x:=(.tmp 13)) (y:=(.tmp 14)) (b:=b43) (o':=p44) (j:=t18) (by kernel_rfl) (by kernel_rfl) (slv (by kernel_rfl) hA45) (by kernel_rfl) (by kernel_rfl) (by kernel_rfl) g41.1 g41.2 ?_
    refine rLa 88 (.tmp 15) (hc46.cells hS24) ?_
    refine r_lit (c:=p37_8) (i:=5) (d:=(some 17)) (ty:=40) (t:=40) (e:=88) (sz:=3) (n:=1) (parts:=#[(0,(.tmp 16))]) (vs:=[(0,.agg (enc_api_Pick (gt y49 t18)).toArray)]) (z:=zeroOf Try.prog 88) (cs':=([(gt y49 t18)] : List api_Pick).flatMap enc_api_Pick) hS24 (by kernel_rfl) (by kernel_rfl) (by kernel_rfl) (by kernel_rfl) (by kernel_rfl) (by decide) (by decide) (by kernel_rfl) rfl (Parts.cons (c:=enc_api_Pick (gt y49 t18)) (by kernel_rfl) (len_api_Pick _) Parts.nil) rfl ?_
    intro b48 w49 hS50
    refine sR 1 (.inRegion (opsOf p37_8) [7,8]::td97) ?_
    obtain ⟨g51,hp52⟩:=ite_some hp42
    refine r_append (c:=p37_8) (i:=7) (d:=(some 19)) (ty:=40) (enc:=enc_api_Pick) (e:=88) (u:=88) (t:=40) (t2:=40) (sz:=3) (cp:=1) (A:=(some ⟨b48,0,none⟩)) (bytes:=24) (xs:=([(gt y49 t18)] : List api_Pick)) (ys:=t19) (s:=(.tmp 17)) (x:=(.tmp 18)) (xv:=.slice A20 t19.length c21) (info:=infoOf Try.prog 88) (z:=zeroOf Try.prog 88) (ycs:=t19.flatMap enc_api_Pick) hS50 (by kernel_rfl) (by kernel_rfl) (by kernel_rfl) (by kernel_rfl) (by kernel_rfl) (.inl (by kernel_rfl)) (by kernel_rfl) (by kernel_rfl) (by kernel_rfl) (by kernel_rfl) (by kernel_rfl) (by omega) len_api_Pick one_api_Pick (src_row (hS50.row 3 rfl) (by omega) len_api_Pick) rfl g51 (by omega) ?_
    intro A53 c54 w55 hS56
    refine sR 4 (iR p37_9 1 5::td96) ?_
    refine rL1 37 (.tmp 20) 5 (hS56.blk 1 rfl) ?_
    refine sR 1 (.inRegion (opsOf p37_9) [3,4,5]::td96) ?_
    obtain ⟨g58,hp59⟩:=ite_some hp52
    obtain ⟨b60,p61,hA62,hc63⟩:=y66.atF g58.1 g58.2
    refine r_indexAddr (c:=p37_9) (i:=3) (d:=(some 23)) (ty:=0) (t:=37) (e:=3) (n:=y48.length) (cp:=y60) (sz:=1) (kk:=.i64) (x:=(.tmp 21)) (y:=(.tmp 22)) (b:=b60) (o':=p61) (j:=t18) (by kernel_rfl) (by kernel_rfl) (slv (by kernel_rfl) hA62) (by kernel_rfl) (by kernel_rfl) (by kernel_rfl) g58.1 g58.2 ?_
    refine rL1 3 (.tmp 23) 0 (hc63.cells hS56) ?_
    refine sR 3 td92 ?_
    have hS64:=hS56.pick3
    have hS65:=hS64.drop
    have hS66:=hS65.pick2
    have hS67:=hS66.pick2
    refine sR 1 td93 ?_
    exact rF _ (ih29 (gt y48 t18) (([(gt y49 t18)] : List api_Pick) ++ t19) _ hp59 he27 _ A53 c54 _ hS67)
   refine sR 3 td90 ?_
   have hS69:=hS24.drop
   have hS70:=hS69.pick1
   exact rF _ (J14 t19 ((Option.some.inj hp68).trans he27) _ A20 c21 _ hS70)
  have hS72:=hS3.nilrow none 88 3
  have hS73:=hS72.pick2
  have hS74:=hS73.pick2
  exact rF _ (L31 a1 [] _ hv6 rfl _ none 0 _ hS74)

noncomputable def cd17 (p : List Nat) : Code := sub (bodyOf Try.f17) p
abbrev p17_8:=cd17 [1,1,1,1]
abbrev p17_16:=cd17 [1,1,0,1,0,0,1,0,0,1,0,0]
abbrev p17_21:=cd17 [1,1,0,1,0,0,1,0,0,1,0,0,1,0,0,0]
abbrev p17_24:=cd17 [1,1,0,1,0,0,1,0,0,1,0,0,1,0,0,1,0,0]
abbrev p17_25:=cd17 [1,1,0,1,0,0,1,0,0,1,0,0,1,0,0,1,0,1]
abbrev td98:List Item:=[.code (cd17 [1,1,1])]
abbrev td99:List Item:=.inBlock 0::td98
abbrev td100:List Item:=.inLoop (cd17 [1,1,0,1,0,0])::td99
abbrev td101:List Item:=.code (cd17 [1,1,0,1,0,0])::td100
abbrev td102:List Item:=.code (cd17 [1,1,0,1,0,0,1,1])::td100
abbrev td103:List Item:=.inBlock 1::td102
abbrev td104:List Item:=.inBlock 2::td103
abbrev td105:List Item:=.inLoop p17_16::td104
abbrev td106:List Item:=.code p17_16::td105
abbrev td107:List Item:=.code (cd17 [1,1,0,1,0,0,1,0,0,1,0,0,1,1])::td105
abbrev td108:List Item:=.inBlock 3::td107
abbrev td109:List Item:=.code p17_25::td108
def weirref14_Way.l1 (a2 t5 : List ByteArray) (t6 : List Int) (t7 : List (List weirref14_Move)) (t8 : List Bool) (t9 : List api_Final) (t10 : List Int) (t11 : List api_Pick) (t12 : Bool) (t13 : List (ByteArray × Int)) (t14 : Bool) (t15 t16 t17 : List (ByteArray × Int)) (t122 t145 : Int) : Option (Sum Unit (Sum Unit ((List api_Pick) × Int × Int × Bool × (List (ByteArray × Int)) × (List (ByteArray × Int)) × (List (ByteArray × Int))))) :=
  (if (decide (t145 < (a2.length : Int))) = true then (if 0 ≤ t145 ∧ t145 < (a2.length : Int) then (if 0 ≤ t122 ∧ t122 < (t5.length : Int) then (if (seq (gt a2 t145) (gt t5 t122)) = true then (weirref14_Graph__way.f t5 t6 t7 t8 t9 t10 t11 t12 t13 t122 >>= (fun t176 => some (.inr (.inr ((t176,(IntKind.i64.wrap (t122 + 1)),0,t14,t15,t16,t17)))))) else (weirref14_Way.l1 a2 t5 t6 t7 t8 t9 t10 t11 t12 t13 t14 t15 t16 t17 t122 (IntKind.i64.wrap (t145 + 1)))) else none) else none) else some (.inl ()))
 partial_fixpoint
def weirref14_Way.l0 (a2 t5 : List ByteArray) (t6 : List Int) (t7 : List (List weirref14_Move)) (t8 : List Bool) (t9 : List api_Final) (t10 : List Int) (t11 : List api_Pick) (t12 : Bool) (t13 : List (ByteArray × Int)) (t14 : Bool) (t15 t16 t17 : List (ByteArray × Int)) (t122 : Int) : Option (Sum Unit ((List api_Pick) × Int × Int × Bool × (List (ByteArray × Int)) × (List (ByteArray × Int)) × (List (ByteArray × Int)))) :=
  (if (decide (t122 < (t5.length : Int))) = true then (weirref14_Way.l1 a2 t5 t6 t7 t8 t9 t10 t11 t12 t13 t14 t15 t16 t17 t122 0 >>= (fun | .inl () => (weirref14_Way.l0 a2 t5 t6 t7 t8 t9 t10 t11 t12 t13 t14 t15 t16 t17 (IntKind.i64.wrap (t122 + 1))) | .inr e => some e)) else some (.inl ()))
 partial_fixpoint
def weirref14_Way.f (y9 : ByteArray) (a0_1c0vv_0m a0_1c0vv_1m a0_1c0vv_2m : List (ByteArray × Int)) (a0_1c0vv_3 : Bool) (a0_1c1v : weirlaw14_Net) (a1 : Int) (a2 : List ByteArray) : Option ((List api_Pick) × Int × Int × Bool × (List (ByteArray × Int)) × (List (ByteArray × Int)) × (List (ByteArray × Int))) :=
  (weirref14_Lay.f y9 a0_1c0vv_0m a0_1c0vv_1m a0_1c0vv_2m a0_1c0vv_3 a0_1c1v a1 >>= (fun (t5,t6,t7,t8,t9,t10,t11,t12,t13,t14,t15,t16,t17) => (weirref14_Way.l0 a2 t5 t6 t7 t8 t9 t10 t11 t12 t13 t14 t15 t16 t17 0 >>= (fun | .inl () => (if (!t12) = true then some (([],(t5.length : Int),1,t14,t15,t16,t17)) else some (([],(t5.length : Int),3,t14,t15,t16,t17))) | .inr e => some e))))
theorem weirref14_Way.ok {y9 : ByteArray} {a0_1c0vv_0m a0_1c0vv_1m a0_1c0vv_2m : List (ByteArray × Int)} {a0_1c0vv_3 : Bool} {a0_1c1v : weirlaw14_Net} {a1 : Int} {a2 : List ByteArray} {ba0_1c0 ba0_1c0v : Nat} {ba0_1c0vv_0 ba0_1c0vv_1 : Nat} {ba0_1c0vv_2 ba0_1c1 : Nat} {Aa0_1c1v_0 : Option Addr} {ca0_1c1v_0 : Nat} {Aa0_1c1v_1 : Option Addr} {ca0_1c1v_1 : Nat} {Aa0_1c1v_2 : Option Addr} {ca0_1c1v_2 : Nat} {Aa2 : Option Addr} {ca2 : Nat} {q0 : List api_Pick} {q1 q2 : Int} {q3 : Bool} {q4 q5 q6 : List (ByteArray × Int)} (hp0 : weirref14_Way.f y9 a0_1c0vv_0m a0_1c0vv_1m a0_1c0vv_2m a0_1c0vv_3 a0_1c1v a1 a2 = some (q0,q1,q2,q3,q4,q5,q6)) (hS0 : St w0 Z (xblk ba0_1c0 33 ([.pointer (some ⟨ba0_1c0v,0,none⟩)])::xblk ba0_1c0v 49 ([.map (some ba0_1c0vv_0),.map (some ba0_1c0vv_1),.map (some ba0_1c0vv_2),.bool a0_1c0vv_3])::xmap ba0_1c0vv_0 (a0_1c0vv_0m.map (kv Value.string (Value.int .i64)))::xmap ba0_1c0vv_1 (a0_1c0vv_1m.map (kv Value.string (Value.int .i64)))::xmap ba0_1c0vv_2 (a0_1c0vv_2m.map (kv Value.string (Value.int .i64)))::xblk ba0_1c1 26 ([.slice Aa0_1c1v_0 a0_1c1v.Next.length ca0_1c1v_0,.slice Aa0_1c1v_1 a0_1c1v.End.length ca0_1c1v_1,.slice Aa0_1c1v_2 a0_1c1v.Value.length ca0_1c1v_2,.int .i64 a0_1c1v.Start])::fs) w) (ha0_1c1v_0 : SlZ (repL (flat (encI .i64)) 1) 1 Z Aa0_1c1v_0 ca0_1c1v_0 a0_1c1v.Next) (ha0_1c1v_1 : SlZ (flat encB) 1 Z Aa0_1c1v_1 ca0_1c1v_1 a0_1c1v.End) (ha0_1c1v_2 : SlZ (flat (encI .i64)) 1 Z Aa0_1c1v_2 ca0_1c1v_2 a0_1c1v.Value) (ha2 : SlZ (flat encS) 1 Z Aa2 ca2 a2) :
    Calls Try.prog 17 #[.agg #[.string y9,.func (.func 28) #[] #[.pointer (some ⟨ba0_1c0,0,none⟩),.pointer (some ⟨ba0_1c1,0,none⟩)],.func (.func 31) #[] #[.pointer (some ⟨ba0_1c1,0,none⟩),.pointer (some ⟨ba0_1c0,0,none⟩)],.func (.func 32) #[] #[.pointer (some ⟨ba0_1c0,0,none⟩),.pointer (some ⟨ba0_1c1,0,none⟩)]],.int .i64 a1,.slice Aa2 a2.length ca2] w (fun e w' => ∃ (QA0 : Option Addr) (Qc0 : Nat),e = .returned (.tuple #[.slice QA0 q0.length Qc0,.int .i64 q1,.int .i64 q2]) ∧ St w0 Z (xrow QA0 Qc0 88 3 (q0.flatMap enc_api_Pick)::xblk ba0_1c0 33 ([.pointer (some ⟨ba0_1c0v,0,none⟩)])::xblk ba0_1c0v 49 ([.map (some ba0_1c0vv_0),.map (some ba0_1c0vv_1),.map (some ba0_1c0vv_2),.bool q3])::xmap ba0_1c0vv_0 (q4.map (kv Value.string (Value.int .i64)))::xmap ba0_1c0vv_1 (q5.map (kv Value.string (Value.int .i64)))::xmap ba0_1c0vv_2 (q6.map (kv Value.string (Value.int .i64)))::xblk ba0_1c1 26 ([.slice Aa0_1c1v_0 a0_1c1v.Next.length ca0_1c1v_0,.slice Aa0_1c1v_1 a0_1c1v.End.length ca0_1c1v_1,.slice Aa0_1c1v_2 a0_1c1v.Value.length ca0_1c1v_2,.int .i64 a0_1c1v.Start])::fs) w'):=by
  refine calls_abs ?_; intro R hR
  unfold weirref14_Way.f at hp0
  refine calls_of_runs (fn:=Try.f17) (c:=cd17 []) Try.func17 (by kernel_rfl) (al:=[.agg #[.string y9,.func (.func 28) #[] #[.pointer (some ⟨ba0_1c0,0,none⟩),.pointer (some ⟨ba0_1c1,0,none⟩)],.func (.func 31) #[] #[.pointer (some ⟨ba0_1c1,0,none⟩),.pointer (some ⟨ba0_1c0,0,none⟩)],.func (.func 32) #[] #[.pointer (some ⟨ba0_1c0,0,none⟩),.pointer (some ⟨ba0_1c1,0,none⟩)]],.int .i64 a1,.slice Aa2 a2.length ca2]) rfl (n:=49) rfl ?_
  refine sR 2 [iR (cd17 [0]) 0 4,.code (cd17 [1])] ?_
  refine r_box (c:=(cd17 [0])) (i:=0) (d:=(some 3)) (ty:=0) (x:=(.tmp 0)) (v:=.agg #[.string y9,.func (.func 28) #[] #[.pointer (some ⟨ba0_1c0,0,none⟩),.pointer (some ⟨ba0_1c1,0,none⟩)],.func (.func 31) #[] #[.pointer (some ⟨ba0_1c1,0,none⟩),.pointer (some ⟨ba0_1c0,0,none⟩)],.func (.func 32) #[] #[.pointer (some ⟨ba0_1c0,0,none⟩),.pointer (some ⟨ba0_1c1,0,none⟩)]]) (t:=32) (cs:=[.string y9,.func (.func 28) #[] #[.pointer (some ⟨ba0_1c0,0,none⟩),.pointer (some ⟨ba0_1c1,0,none⟩)],.func (.func 31) #[] #[.pointer (some ⟨ba0_1c1,0,none⟩),.pointer (some ⟨ba0_1c0,0,none⟩)],.func (.func 32) #[] #[.pointer (some ⟨ba0_1c0,0,none⟩),.pointer (some ⟨ba0_1c1,0,none⟩)]]) hS0 (by kernel_rfl) (by kernel_rfl) (by kernel_rfl) (by kernel_rfl) ?_
  intro b1 w2 hS3
  refine sR 6 [iR (cd17 [1,0]) 0 5,.code (cd17 [1,1])] ?_
  refine rLa 32 (.tmp 3) (hS3.blk 0 rfl) ?_
  refine sR 1 [.inRegion (opsOf (cd17 [1,0])) [2,3,4],.code (cd17 [1,1])] ?_
  obtain ⟨⟨t5,t6,t7,t8,t9,t10,t11,t12,t13,t14,t15,t16,t17⟩,hr34,hp35⟩:=bind_some' hp0
  try dsimp only at hp35
  have hS47:=hS3.pick6
  have hS48:=hS47.pick6
  have hS49:=hS48.pick6
  have hS50:=hS49.pick6
  have hS51:=hS50.pick6
  have hS52:=hS51.pick6
  refine rC (weirref14_Lay.ok hr34 hS52 ha0_1c1v_0 ha0_1c1v_1 ha0_1c1v_2) ?_
  rintro _ w53 ⟨Q18,Q19,Q20,Q21,Q22,Q23,Q24,Q25,Q26,Q27,Q28,Q29,Q30,Q31,Q32,Q33,rfl,hS54⟩
  refine ⟨_,rfl,?_⟩
  refine rA 43 (.agg #[.slice none 0 0,.slice none 0 0,.slice none 0 0,.slice none 0 0,.slice none 0 0,.slice none 0 0,.slice none 0 0,.bool false,.map none]) [.slice none 0 0,.slice none 0 0,.slice none 0 0,.slice none 0 0,.slice none 0 0,.slice none 0 0,.slice none 0 0,.bool false,.map none] hS54 ?_
  intro b55 w56 hS57
  refine rS 43 (.tmp 9) (.tmp 14) 0 (.agg #[.slice Q18 t5.length Q19,.slice Q20 t6.length Q21,.slice Q22 t7.length Q23,.slice Q25 t8.length Q26,.slice Q27 t9.length Q28,.slice Q29 t10.length Q30,.slice Q31 t11.length Q32,.bool t12,.map (some Q33)]) [.slice Q18 t5.length Q19,.slice Q20 t6.length Q21,.slice Q22 t7.length Q23,.slice Q25 t8.length Q26,.slice Q27 t9.length Q28,.slice Q29 t10.length Q30,.slice Q31 t11.length Q32,.bool t12,.map (some Q33)] [.slice Q18 t5.length Q19,.slice Q20 t6.length Q21,.slice Q22 t7.length Q23,.slice Q25 t8.length Q26,.slice Q27 t9.length Q28,.slice Q29 t10.length Q30,.slice Q31 t11.length Q32,.bool t12,.map (some Q33)] hS57 ?_
  intro w59 hS60
  refine sR 8 td101 ?_
  have hS61:=hS60.pick15
  have hS62:=hS61.drop
  obtain ⟨v63,hv64,hp65⟩:=bind_some' hp35
  have hq68 : ∀ x,Sum.inr x = v63 → x = (q0,q1,q2,q3,q4,q5,q6):=by intro x hx; subst hx; simpa using hp65
  have J69 : ∀ (he71 : Sum.inl () = v63) (l70 : List Value) (w66 : World) (hS67 : St w0 Z (xblk b55 43 ([.slice Q18 t5.length Q19,.slice Q20 t6.length Q21,.slice Q22 t7.length Q23,.slice Q25 t8.length Q26,.slice Q27 t9.length Q28,.slice Q29 t10.length Q30,.slice Q31 t11.length Q32,.bool t12,.map (some Q33)])::xrow Q18 Q19 9 1 (t5.flatMap encS)::xrow Q20 Q21 3 1 (t6.flatMap (encI .i64))::xrr Q22 Q23 93 Q24 95 4 enc_weirref14_Move t7::xrow Q25 Q26 4 1 (t8.flatMap encB)::xrow Q27 Q28 84 49 (t9.flatMap enc_api_Final)::xrow Q29 Q30 3 1 (t10.flatMap (encI .i64))::xrow Q31 Q32 88 3 (t11.flatMap enc_api_Pick)::xmap Q33 (t13.map (kv Value.string (Value.int .i64)))::xblk ba0_1c0 33 ([.pointer (some ⟨ba0_1c0v,0,none⟩)])::xblk ba0_1c0v 49 ([.map (some ba0_1c0vv_0),.map (some ba0_1c0vv_1),.map (some ba0_1c0vv_2),.bool t14])::xmap ba0_1c0vv_0 (t15.map (kv Value.string (Value.int .i64)))::xmap ba0_1c0vv_1 (t16.map (kv Value.string (Value.int .i64)))::xmap ba0_1c0vv_2 (t17.map (kv Value.string (Value.int .i64)))::xblk ba0_1c1 26 ([.slice Aa0_1c1v_0 a0_1c1v.Next.length ca0_1c1v_0,.slice Aa0_1c1v_1 a0_1c1v.End.length ca0_1c1v_1,.slice Aa0_1c1v_2 a0_1c1v.Value.length ca0_1c1v_2,.int .i64 a0_1c1v.Start])::fs) w66),Runs Try.prog (fx 17) td98 (fill (mk 52 [(9,.pointer (some ⟨b55,0,none⟩))]) l70) w66 R:=by
   intro he71 l70 w66 hS67
   subst he71
   try dsimp only at hp65
   refine sR 4 [.inRegion (opsOf (cd17 [1,1,1,0,0])) [1,2],.code (cd17 [1,1,1,0,1]),.code p17_8] ?_
   refine rL1 4 (.tmp 43) 7 (hS67.blk 0 rfl) ?_
   refine sI 1 [.inRegion (opsOf (cd17 [1,1,1,0,0])) [],.code (cd17 [1,1,1,0,1]),.code p17_8] 45 hp65 (fun hp74 => ?_) fun hp98 => ?_
   ·refine sR 3 [.code (cd17 [1,1,1,0,1,0,0]),.code (cd17 [1,1,1,0,1,0,1]),.code p17_8] ?_
    refine r_quiet hS67 (c:=(cd17 [1,1,1,0,1,0,0])) (id:=11) (by kernel_rfl) (by kernel_rfl) (by kernel_rfl) (is:=[0,1,2,3,4,5]) (by kernel_rfl) ?_
    refine qR 1 (rg 1 5) ?_
    refine qL1 36 (.tmp 46) 0 (fun w hC => (hC.blk 0 rfl)) ?_
    refine qR 4 [] ?_
    refine Qs.nil ?_
    intro w75 hS76
    have hS78:=hS76.nilrow none 88 3
    have hS79:=hS78.pick1
    have hS80:=hS79.drop
    have hS81:=hS80.pick1
    have hS82:=hS81.drop
    have hS83:=hS82.pick1
    have hS84:=hS83.drop
    have hS85:=hS84.pick1
    have hS86:=hS85.drop
    have hS87:=hS86.pick1
    have hS88:=hS87.drop
    have hS89:=hS88.pick1
    have hS90:=hS89.drop
    have hS91:=hS90.pick1
    have hS92:=hS91.drop
    have hS93:=hS92.pick1
    have hS94:=hS93.drop
    have hS95:=hS94.pick1
    have hS96:=hS95.drop
    refine rR (.tuple #[.slice none 0 0,.int .i64 (t5.length : Int),.int .i64 1]) Try.func17 ?_
    cases Option.some.inj hp74
    exact hR _ _ ⟨none,0,rfl,hS96⟩
   refine sR 4 [.code (cd17 [1,1,1,1,0]),.code (cd17 [1,1,1,1,1])] ?_
   refine r_quiet hS67 (c:=(cd17 [1,1,1,1,0])) (id:=12) (by kernel_rfl) (by kernel_rfl) (by kernel_rfl) (is:=[0,1,2,3,4,5]) (by kernel_rfl) ?_
   refine qR 1 (rg 1 5) ?_
   refine qL1 36 (.tmp 49) 0 (fun w hC => (hC.blk 0 rfl)) ?_
   refine qR 4 [] ?_
   refine Qs.nil ?_
   intro w99 hS100
   have hS102:=hS100.nilrow none 88 3
   have hS103:=hS102.pick1
   have hS104:=hS103.drop
   have hS105:=hS104.pick1
   have hS106:=hS105.drop
   have hS107:=hS106.pick1
   have hS108:=hS107.drop
   have hS109:=hS108.pick1
   have hS110:=hS109.drop
   have hS111:=hS110.pick1
   have hS112:=hS111.drop
   have hS113:=hS112.pick1
   have hS114:=hS113.drop
   have hS115:=hS114.pick1
   have hS116:=hS115.drop
   have hS117:=hS116.pick1
   have hS118:=hS117.drop
   have hS119:=hS118.pick1
   have hS120:=hS119.drop
   refine rR (.tuple #[.slice none 0 0,.int .i64 (t5.length : Int),.int .i64 3]) Try.func17 ?_
   cases Option.some.inj hp98
   exact hR _ _ ⟨none,0,rfl,hS120⟩
  have L131 : ∀ (t122 : Int) (e126 : Sum Unit ((List api_Pick) × Int × Int × Bool × (List (ByteArray × Int)) × (List (ByteArray × Int)) × (List (ByteArray × Int)))),weirref14_Way.l0 a2 t5 t6 t7 t8 t9 t10 t11 t12 t13 t14 t15 t16 t17 t122 = some e126 → e126 = v63 → ∀ (l125 : List Value) (w123 : World) (hS124 : St w0 Z (xblk b55 43 ([.slice Q18 t5.length Q19,.slice Q20 t6.length Q21,.slice Q22 t7.length Q23,.slice Q25 t8.length Q26,.slice Q27 t9.length Q28,.slice Q29 t10.length Q30,.slice Q31 t11.length Q32,.bool t12,.map (some Q33)])::xrow Q18 Q19 9 1 (t5.flatMap encS)::xrow Q20 Q21 3 1 (t6.flatMap (encI .i64))::xrr Q22 Q23 93 Q24 95 4 enc_weirref14_Move t7::xrow Q25 Q26 4 1 (t8.flatMap encB)::xrow Q27 Q28 84 49 (t9.flatMap enc_api_Final)::xrow Q29 Q30 3 1 (t10.flatMap (encI .i64))::xrow Q31 Q32 88 3 (t11.flatMap enc_api_Pick)::xmap Q33 (t13.map (kv Value.string (Value.int .i64)))::xblk ba0_1c0 33 ([.pointer (some ⟨ba0_1c0v,0,none⟩)])::xblk ba0_1c0v 49 ([.map (some ba0_1c0vv_0),.map (some ba0_1c0vv_1),.map (some ba0_1c0vv_2),.bool t14])::xmap ba0_1c0vv_0 (t15.map (kv Value.string (Value.int .i64)))::xmap ba0_1c0vv_1 (t16.map (kv Value.string (Value.int .i64)))::xmap ba0_1c0vv_2 (t17.map (kv Value.string (Value.int .i64)))::xblk ba0_1c1 26 ([.slice Aa0_1c1v_0 a0_1c1v.Next.length ca0_1c1v_0,.slice Aa0_1c1v_1 a0_1c1v.End.length ca0_1c1v_1,.slice Aa0_1c1v_2 a0_1c1v.Value.length ca0_1c1v_2,.int .i64 a0_1c1v.Start])::fs) w123),Runs Try.prog (fx 17) td101 (fill (mk 52 [(2,.slice Aa2 a2.length ca2),(9,.pointer (some ⟨b55,0,none⟩)),(10,.int .i64 t122)]) l125) w123 R:=by
   refine weirref14_Way.l0.partial_correctness a2 t5 t6 t7 t8 t9 t10 t11 t12 t13 t14 t15 t16 t17 (fun t122 e126 => e126 = v63 → ∀ (l125 : List Value) (w123 : World) (hS124 : St w0 Z (xblk b55 43 ([.slice Q18 t5.length Q19,.slice Q20 t6.length Q21,.slice Q22 t7.length Q23,.slice Q25 t8.length Q26,.slice Q27 t9.length Q28,.slice Q29 t10.length Q30,.slice Q31 t11.length Q32,.bool t12,.map (some Q33)])::xrow Q18 Q19 9 1 (t5.flatMap encS)::xrow Q20 Q21 3 1 (t6.flatMap (encI .i64))::xrr Q22 Q23 93 Q24 95 4 enc_weirref14_Move t7::xrow Q25 Q26 4 1 (t8.flatMap encB)::xrow Q27 Q28 84 49 (t9.flatMap enc_api_Final)::xrow Q29 Q30 3 1 (t10.flatMap (encI .i64))::xrow Q31 Q32 88 3 (t11.flatMap enc_api_Pick)::xmap Q33 (t13.map (kv Value.string (Value.int .i64)))::xblk ba0_1c0 33 ([.pointer (some ⟨ba0_1c0v,0,none⟩)])::xblk ba0_1c0v 49 ([.map (some ba0_1c0vv_0),.map (some ba0_1c0vv_1),.map (some ba0_1c0vv_2),.bool t14])::xmap ba0_1c0vv_0 (t15.map (kv Value.string (Value.int .i64)))::xmap ba0_1c0vv_1 (t16.map (kv Value.string (Value.int .i64)))::xmap ba0_1c0vv_2 (t17.map (kv Value.string (Value.int .i64)))::xblk ba0_1c1 26 ([.slice Aa0_1c1v_0 a0_1c1v.Next.length ca0_1c1v_0,.slice Aa0_1c1v_1 a0_1c1v.End.length ca0_1c1v_1,.slice Aa0_1c1v_2 a0_1c1v.Value.length ca0_1c1v_2,.int .i64 a0_1c1v.Start])::fs) w123),Runs Try.prog (fx 17) td101 (fill (mk 52 [(2,.slice Aa2 a2.length ca2),(9,.pointer (some ⟨b55,0,none⟩)),(10,.int .i64 t122)]) l125) w123 R) ?_
   intro rec130 ih129 t122 e126 hb128 he127 l125 w123 hS124
   have hq132 : ∀ x,Sum.inr x = e126 → x = (q0,q1,q2,q3,q4,q5,q6):=fun x hx => hq68 x (hx.trans he127)
   refine sR 5 (.inRegion (opsOf (cd17 [1,1,0,1,0,0,0,0])) [2,3,4]::.code (cd17 [1,1,0,1,0,0,0,1])::.code (cd17 [1,1,0,1,0,0,1])::td100) ?_
   refine rL1 36 (.tmp 16) 0 (hS124.blk 0 rfl) ?_
   refine sI 2 (.inRegion (opsOf (cd17 [1,1,0,1,0,0,0,0])) []::.code (cd17 [1,1,0,1,0,0,0,1])::.code (cd17 [1,1,0,1,0,0,1])::td100) 19 hb128 (fun hp135 => ?_) fun hp250 => ?_
   ·refine sR 11 td106 ?_
    obtain ⟨v136,hv137,hp138⟩:=bind_some' hp135
    have hq141 : ∀ x,Sum.inr x = v136 → x = e126:=by intro x hx; subst hx; simpa using hp138
    have J142 : ∀ (he144 : Sum.inl () = v136) (l143 : List Value) (w139 : World) (hS140 : St w0 Z (xblk b55 43 ([.slice Q18 t5.length Q19,.slice Q20 t6.length Q21,.slice Q22 t7.length Q23,.slice Q25 t8.length Q26,.slice Q27 t9.length Q28,.slice Q29 t10.length Q30,.slice Q31 t11.length Q32,.bool t12,.map (some Q33)])::xrow Q18 Q19 9 1 (t5.flatMap encS)::xrow Q20 Q21 3 1 (t6.flatMap (encI .i64))::xrr Q22 Q23 93 Q24 95 4 enc_weirref14_Move t7::xrow Q25 Q26 4 1 (t8.flatMap encB)::xrow Q27 Q28 84 49 (t9.flatMap enc_api_Final)::xrow Q29 Q30 3 1 (t10.flatMap (encI .i64))::xrow Q31 Q32 88 3 (t11.flatMap enc_api_Pick)::xmap Q33 (t13.map (kv Value.string (Value.int .i64)))::xblk ba0_1c0 33 ([.pointer (some ⟨ba0_1c0v,0,none⟩)])::xblk ba0_1c0v 49 ([.map (some ba0_1c0vv_0),.map (some ba0_1c0vv_1),.map (some ba0_1c0vv_2),.bool t14])::xmap ba0_1c0vv_0 (t15.map (kv Value.string (Value.int .i64)))::xmap ba0_1c0vv_1 (t16.map (kv Value.string (Value.int .i64)))::xmap ba0_1c0vv_2 (t17.map (kv Value.string (Value.int .i64)))::xblk ba0_1c1 26 ([.slice Aa0_1c1v_0 a0_1c1v.Next.length ca0_1c1v_0,.slice Aa0_1c1v_1 a0_1c1v.End.length ca0_1c1v_1,.slice Aa0_1c1v_2 a0_1c1v.Value.length ca0_1c1v_2,.int .i64 a0_1c1v.Start])::fs) w139),Runs Try.prog (fx 17) td103 (fill (mk 52 [(2,.slice Aa2 a2.length ca2),(9,.pointer (some ⟨b55,0,none⟩)),(10,.int .i64 t122)]) l143) w139 R:=by
     intro he144 l143 w139 hS140
     subst he144
     try dsimp only at hp138
     refine sR 6 td100 ?_
     refine sR 1 td101 ?_
     exact rF _ (ih129 (IntKind.i64.wrap (t122 + 1)) _ hp138 he127 _ _ hS140)
    have L154 : ∀ (t145 : Int) (e149 : Sum Unit (Sum Unit ((List api_Pick) × Int × Int × Bool × (List (ByteArray × Int)) × (List (ByteArray × Int)) × (List (ByteArray × Int))))),weirref14_Way.l1 a2 t5 t6 t7 t8 t9 t10 t11 t12 t13 t14 t15 t16 t17 t122 t145 = some e149 → e149 = v136 → ∀ (l148 : List Value) (w146 : World) (hS147 : St w0 Z (xblk b55 43 ([.slice Q18 t5.length Q19,.slice Q20 t6.length Q21,.slice Q22 t7.length Q23,.slice Q25 t8.length Q26,.slice Q27 t9.length Q28,.slice Q29 t10.length Q30,.slice Q31 t11.length Q32,.bool t12,.map (some Q33)])::xrow Q18 Q19 9 1 (t5.flatMap encS)::xrow Q20 Q21 3 1 (t6.flatMap (encI .i64))::xrr Q22 Q23 93 Q24 95 4 enc_weirref14_Move t7::xrow Q25 Q26 4 1 (t8.flatMap encB)::xrow Q27 Q28 84 49 (t9.flatMap enc_api_Final)::xrow Q29 Q30 3 1 (t10.flatMap (encI .i64))::xrow Q31 Q32 88 3 (t11.flatMap enc_api_Pick)::xmap Q33 (t13.map (kv Value.string (Value.int .i64)))::xblk ba0_1c0 33 ([.pointer (some ⟨ba0_1c0v,0,none⟩)])::xblk ba0_1c0v 49 ([.map (some ba0_1c0vv_0),.map (some ba0_1c0vv_1),.map (some ba0_1c0vv_2),.bool t14])::xmap ba0_1c0vv_0 (t15.map (kv Value.string (Value.int .i64)))::xmap ba0_1c0vv_1 (t16.map (kv Value.string (Value.int .i64)))::xmap ba0_1c0vv_2 (t17.map (kv Value.string (Value.int .i64)))::xblk ba0_1c1 26 ([.slice Aa0_1c1v_0 a0_1c1v.Next.length ca0_1c1v_0,.slice Aa0_1c1v_1 a0_1c1v.End.length ca0_1c1v_1,.slice Aa0_1c1v_2 a0_1c1v.Value.length ca0_1c1v_2,.int .i64 a0_1c1v.Start])::fs) w146),Runs Try.prog (fx 17) td106 (fill (mk 52 [(2,.slice Aa2 a2.length ca2),(9,.pointer (some ⟨b55,0,none⟩)),(10,.int .i64 t122),(11,.int .i64 t145)]) l148) w146 R:=by
     refine weirref14_Way.l1.partial_correctness a2 t5 t6 t7 t8 t9 t10 t11 t12 t13 t14 t15 t16 t17 t122 (fun t145 e149 => e149 = v136 → ∀ (l148 : List Value) (w146 : World) (hS147 : St w0 Z (xblk b55 43 ([.slice Q18 t5.length Q19,.slice Q20 t6.length Q21,.slice Q22 t7.length Q23,.slice Q25 t8.length Q26,.slice Q27 t9.length Q28,.slice Q29 t10.length Q30,.slice Q31 t11.length Q32,.bool t12,.map (some Q33)])::xrow Q18 Q19 9 1 (t5.flatMap encS)::xrow Q20 Q21 3 1 (t6.flatMap (encI .i64))::xrr Q22 Q23 93 Q24 95 4 enc_weirref14_Move t7::xrow Q25 Q26 4 1 (t8.flatMap encB)::xrow Q27 Q28 84 49 (t9.flatMap enc_api_Final)::xrow Q29 Q30 3 1 (t10.flatMap (encI .i64))::xrow Q31 Q32 88 3 (t11.flatMap enc_api_Pick)::xmap Q33 (t13.map (kv Value.string (Value.int .i64)))::xblk ba0_1c0 33 ([.pointer (some ⟨ba0_1c0v,0,none⟩)])::xblk ba0_1c0v 49 ([.map (some ba0_1c0vv_0),.map (some ba0_1c0vv_1),.map (some ba0_1c0vv_2),.bool t14])::xmap ba0_1c0vv_0 (t15.map (kv Value.string (Value.int .i64)))::xmap ba0_1c0vv_1 (t16.map (kv Value.string (Value.int .i64)))::xmap ba0_1c0vv_2 (t17.map (kv Value.string (Value.int .i64)))::xblk ba0_1c1 26 ([.slice Aa0_1c1v_0 a0_1c1v.Next.length ca0_1c1v_0,.slice Aa0_1c1v_1 a0_1c1v.End.length ca0_1c1v_1,.slice Aa0_1c1v_2 a0_1c1v.Value.length ca0_1c1v_2,.int .i64 a0_1c1v.Start])::fs) w146),Runs Try.prog (fx 17) td106 (fill (mk 52 [(2,.slice Aa2 a2.length ca2),(9,.pointer (some ⟨b55,0,none⟩)),(10,.int .i64 t122),(11,.int .i64 t145)]) l148) w146 R) ?_
     intro rec153 ih152 t145 e149 hb151 he150 l148 w146 hS147
     have hq155 : ∀ x,Sum.inr x = e149 → x = e126:=fun x hx => hq141 x (hx.trans he150)
     refine sI 7 (.inRegion (opsOf (cd17 [1,1,0,1,0,0,1,0,0,1,0,0,0,0])) []::.code (cd17 [1,1,0,1,0,0,1,0,0,1,0,0,0,1])::.code (cd17 [1,1,0,1,0,0,1,0,0,1,0,0,1])::td105) 25 hb151 (fun hp158 => ?_) fun hp249 => ?_
     ·refine sR 6 (.code p17_21::.code (cd17 [1,1,0,1,0,0,1,0,0,1,0,0,1,0,0,1])::td108) ?_
      refine r_quiet hS147 (c:=p17_21) (id:=8) (by kernel_rfl) (by kernel_rfl) (by kernel_rfl) (is:=[0,1,2,3,4,5,6,7,8,9]) (by kernel_rfl) ?_
      refine qR 2 (rg 2 8) ?_
      obtain ⟨g159,hp160⟩:=ite_some hp158
      obtain ⟨b161,p162,hA163,hc164⟩:=ha2.atF g159.1 g159.2
      refine q_indexAddr (c:=p17_21) (i:=2) (d:=(some 30)) (ty:=0) (t:=36) (e:=9) (n:=a2.length) (cp:=ca2) (sz:=1) (kk:=.i64) (x:=(.tmp 28)) (y:=(.tmp 29)) (b:=b161) (o':=p162) (j:=t145) (by kernel_rfl) (by kernel_rfl) (slv (by kernel_rfl) hA163) (by kernel_rfl) (by kernel_rfl) (by kernel_rfl) g159.1 g159.2 ?_
      refine qL1 9 (.tmp 30) 0 (fun w hC => (hc164.cells hC)) ?_
      refine qR 1 (rg 5 5) ?_
      refine qL1 36 (.tmp 32) 0 (fun w hC => (hC.blk 0 rfl)) ?_
      refine qR 1 [7,8,9] ?_
      obtain ⟨g165,hp166⟩:=ite_some hp160
      obtain ⟨b167,p168,hA169,-⟩:=(hS147.row 1 rfl).at_ len_encS (by omega) g165.1 g165.2
      refine q_indexAddr (c:=p17_21) (i:=7) (d:=(some 35)) (ty:=0) (t:=36) (e:=9) (n:=t5.length) (cp:=Q19) (sz:=1) (kk:=.i64) (x:=(.tmp 33)) (y:=(.tmp 34)) (b:=b167) (o':=p168) (j:=t122) (by kernel_rfl) (by kernel_rfl) (slv (by kernel_rfl) hA169) (by kernel_rfl) (by kernel_rfl) (by kernel_rfl) g165.1 g165.2 ?_
      refine qL1 9 (.tmp 35) 0 (fun w hC => ((hC.row 1 rfl).at2 hA169 len_encS (by omega) g165.1 g165.2)) ?_
      refine qI 1 [] 37 hp166 (fun hp173 => ?_) fun hp246 => ?_
      ·refine Qs.nil ?_
       intro w174 hS175
       refine sR 3 (iR p17_24 0 8::td109) ?_
       refine rLa 43 (.tmp 9) (hS175.blk 0 rfl) ?_
       refine sR 1 (iR p17_24 2 6::td109) ?_
       obtain ⟨t176,hr179,hp180⟩:=bind_some' hp173
       have hS182:=hS175.pick1
       obtain ⟨Z183,hz184,hS185,hs186,hb187⟩:=hS182.lendrow len_encS (by omega)
       have hS188:=hS185.pick1
       obtain ⟨Z189,hz190,hS191,hs192,hb193⟩:=hS188.lendrow (len_encI .i64) (by omega)
       have hS194:=hS191.pick1
       obtain ⟨Z195,hz196,hS197,hs198,hb199⟩:=hS194.lendrr len_weirref14_Move (by omega)
       have hS200:=hS197.pick1
       obtain ⟨Z201,hz202,hS203,hs204,hb205⟩:=hS200.lendrow len_encB (by omega)
       have hS206:=hS203.pick1
       obtain ⟨Z207,hz208,hS209,hs210,hb211⟩:=hS206.lendrow len_api_Final (by omega)
       have hS212:=hS209.pick1
       obtain ⟨Z213,hz214,hS215,hs216,hb217⟩:=hS212.lendrow (len_encI .i64) (by omega)
       have hS218:=hS215.pick1
       obtain ⟨Z219,hz220,hS221,hs222,hb223⟩:=hS218.lendrow len_api_Pick (by omega)
       have hS224:=hS221.pick1
       refine rC (weirref14_Graph__way.ok hr179 hS224 (hs186.up (Zm.Le.trans hz190 (Zm.Le.trans hz196 (Zm.Le.trans hz202 (Zm.Le.trans hz208 (Zm.Le.trans hz214 hz220)))))) (hs192.up (Zm.Le.trans hz196 (Zm.Le.trans hz202 (Zm.Le.trans hz208 (Zm.Le.trans hz214 hz220))))) (SlZ.mono (mono_repL (mono_flat _)) hs198 (Zm.Le.trans hz202 (Zm.Le.trans hz208 (Zm.Le.trans hz214 hz220)))) (hs204.up (Zm.Le.trans hz208 (Zm.Le.trans hz214 hz220))) (hs210.up (Zm.Le.trans hz214 hz220)) (hs216.up hz220) hs222) ?_
       rintro _ w225 ⟨Q177,Q178,rfl,hS226⟩
       refine ⟨_,rfl,?_⟩
       have hS227:=hb223 _ _ hS226
       have hS228:=hb217 _ _ hS227
       have hS229:=hb211 _ _ hS228
       have hS230:=hb205 _ _ hS229
       have hS231:=hb199 _ _ hS230
       have hS232:=hb193 _ _ hS231
       have hS233:=hb187 _ _ hS232
       refine sR 6 td109 ?_
       refine r_isret (c:=p17_25) (by kernel_rfl) ?_
       have hS234:=hS233.drop
       have hS235:=hS234.drop
       have hS236:=hS235.drop
       have hS237:=hS236.drop
       have hS238:=hS237.drop
       have hS239:=hS238.drop
       have hS240:=hS239.drop
       have hS241:=hS240.pick1
       have hS242:=hS241.drop
       have hS243:=hS242.pick1
       have hS244:=hS243.drop
       refine rR (.tuple #[.slice Q177 t176.length Q178,.int .i64 (IntKind.i64.wrap (t122 + 1)),.int .i64 0]) Try.func17 ?_
       cases hq132 _ (hq155 _ (Option.some.inj hp180))
       exact hR _ _ ⟨Q177,Q178,rfl,hS244⟩
      refine Qs.nil ?_
      intro w247 hS248
      refine sR 8 td105 ?_
      refine sR 1 td106 ?_
      exact rF _ (ih152 (IntKind.i64.wrap (t145 + 1)) _ hp246 he150 _ _ hS248)
     refine sR 3 td103 ?_
     exact rF _ (J142 ((Option.some.inj hp249).trans he150) _ _ hS147)
    exact rF _ (L154 0 _ hv137 rfl _ _ hS124)
   refine sR 3 td98 ?_
   exact rF _ (J69 ((Option.some.inj hp250).trans he127) _ _ hS124)
  exact rF _ (L131 0 _ hv64 rfl _ _ hS62)

end
end Go.Proofs.Ytfiamlhhhkiiaaa.K
