/- The walk, part 3: each Go function as a plain Lean function, and that its call answers as that function says. No condition. -/
import Derived.Test.YtboejepakdnbgaaGreatDoorE
import Derived.Test.YtboejepakdnbgaaGreatDoorNG
import Derived.Test.YtboejepakdnbgaaGreatDoorNP
import Derived.Test.YtboejepakdnbgaaGreatDoorNM
import Derived.Test.YtboejepakdnbgaaGreatDoorNI
import Derived.Test.YtboejepakdnbgaaGreatDoorNV
import Derived.Test.YtboejepakdnbgaaGreatDoorNX
import Derived.Test.YtboejepakdnbgaaGreatDoorNY
import Derived.Test.YtboejepakdnbgaaGreatDoorNC
import Derived.Test.YtboejepakdnbgaaGreatDoorNF
import Derived.Test.YtboejepakdnbgaaGreatDoorNA
import Derived.Test.YtboejepakdnbgaaGreatDoorF2
set_option linter.unusedVariables false
set_option linter.unusedSimpArgs false
set_option maxRecDepth 100000
namespace Go.Proofs.YtboejepakdnbgaaGreatDoor.K
open Go Go.RowKit
noncomputable section
set_option maxHeartbeats 16000000
variable {w0 : World} {Z : Zm} {fs : List XObj} {w : World}
noncomputable def cd27 (p : List Nat) : Code := sub (bodyOf Tryz.f27) p
abbrev td179:List Item:=[.code (cd27 [1,1])]
abbrev td180:List Item:=.code (cd27 [1,0,1,0,1])::td179
def cond_Take.f (a0 : List api_Token) (a1 : Int) : Option ((List api_Node) × Int × PErr) :=
  (if (decide (a1 < 0)) = true then some (([],0,(.num 4))) else (if (decide (a1 > (a0.length : Int))) = true then some (([],0,(.num 4))) else (cond_reader__cond_2.f (cond_reader__not.f fuelN) (⟨a0,a1,(⟨0,(⟨#[]⟩ : ByteArray),0,0,0,0,0⟩ : api_Token),0,([] : List api_Node)⟩ : cond_reader) >>= (fun | .inl pe75 => (cond_Take_1.f ([] : List api_Node) 0 pe75 >>= (fun (t86,t87,t88) => some ((t86,t87,t88)))) | .inr (t65,t66,t67,t68,t69) => (cond_Take_1_1.f t69 t66 >>= (fun _ => some ((t69,t66,.nil))))))))
theorem cond_Take.ok {a0 : List api_Token} {a1 : Int} {Aa0 : Option Addr} {ca0 : Nat} {q0 : List api_Node} {q1 : Int} {q2 : PErr} (hp0 : cond_Take.f a0 a1 = some (q0,q1,q2)) (hS0 : St w0 Z (fs) w) (ha0 : SlZ (flat enc_api_Token) 7 Z Aa0 ca0 a0) (hE : Env Z) :
    Calls Tryz.prog 27 #[.slice Aa0 a0.length ca0,.int .i64 a1] w (fun e w' => ∃ (QA0 : Option Addr) (Qc0 : Nat) (Qv2 : Value) (Z' : Zm),Zm.Le Z Z' ∧ e = .returned (.tuple #[.slice QA0 q0.length Qc0,.int .i64 q1,Qv2]) ∧ St w0 Z' (xrow QA0 Qc0 68 6 (q0.flatMap enc_api_Node)::fs) w' ∧ RepE 37 78 Z' Qv2 q2):=by
  refine calls_abs ?_; intro R hR
  unfold cond_Take.f at hp0
  refine calls_of_runs (fn:=Tryz.f27) (c:=cd27 []) Tryz.func27 (by kernel_rfl) (al:=[.slice Aa0 a0.length ca0,.int .i64 a1]) rfl (n:=30) rfl ?_
  refine sR 2 [.inRegion (opsOf (cd27 [0])) [0,1,2],.code (cd27 [1])] ?_
  refine rA 23 (.slice none 0 0) [.slice none 0 0] hS0 ?_
  intro b1 w2 hS3
  refine rA 3 (.int .i64 0) [.int .i64 0] hS3 ?_
  intro b5 w6 hS7
  refine rA 25 .nilIface [.nilIface] hS7 ?_
  intro b9 w10 hS11
  refine sI 6 (iR (cd27 [1,0,0]) 2 6::.code (cd27 [1,0,1])::td179) 9 hp0 (fun hp15 => ?_) fun hp35 => ?_
  ·refine sR 11 (.inRegion (opsOf (cd27 [1,0,1,0,0])) [1,2,3]::td180) ?_
   have hS16:=hS11.pick2
   refine rS 23 (.tmp 4) (.const (.slice none 0 0)) 0 (.slice none 0 0) [.slice none 0 0] [.slice none 0 0] hS16 ?_
   intro w17 hS18
   have hS19:=hS18.pick2
   refine rS 3 (.tmp 5) (.const (.int .i64 0)) 0 (.int .i64 0) [.int .i64 0] [.int .i64 0] hS19 ?_
   intro w20 hS21
   have hS22:=hS21.pick2
   refine rS 25 (.tmp 6) (.tmp 16) 0 (.iface 37 (.int .i64 4)) [.iface 37 (.int .i64 4)] [.iface 37 (.int .i64 4)] hS22 ?_
   intro w23 hS24
   refine sR 1 td180 ?_
   have hS26:=hS24.nilrow none 68 6
   have hS28:=hS26.pick1
   have hS29:=hS28.drop
   have hS30:=hS29.pick1
   have hS31:=hS30.drop
   have hS32:=hS31.pick1
   have hS33:=hS32.drop
   refine runs_ret (fn:=Tryz.f27) (v:=.tuple #[.slice none 0 0,.int .i64 0,.iface 37 (.int .i64 4)]) Tryz.func27 (resl_run (fn:=Tryz.f27) (by kernel_rfl) (.cell (t:=4) (ty:=23) (by kernel_rfl) (loads_at 0 (hS24.blk 2 rfl) (by kernel_rfl) (by kernel_rfl)) (.cell (t:=5) (ty:=3) (by kernel_rfl) (loads_at 0 (hS24.blk 1 rfl) (by kernel_rfl) (by kernel_rfl)) (.cell (t:=6) (ty:=25) (by kernel_rfl) (loads_at 0 (hS24.blk 0 rfl) (by kernel_rfl) (by kernel_rfl)) .nil)))) ?_
   cases Option.some.inj hp15
   exact hR _ _ ⟨none,0,(.iface 37 (.int .i64 4)),Z,(Zm.Le.refl _),rfl,hS33,(RepE.of_num)⟩
  refine sI 5 (.inRegion (opsOf (cd27 [1,0,0])) [7]::.code (cd27 [1,0,1])::td179) 14 hp35 (fun hp38 => ?_) fun hp58 => ?_
  ·refine sR 6 (.inRegion (opsOf (cd27 [1,0,1,0,0])) [1,2,3]::td180) ?_
   have hS39:=hS11.pick2
   refine rS 23 (.tmp 4) (.const (.slice none 0 0)) 0 (.slice none 0 0) [.slice none 0 0] [.slice none 0 0] hS39 ?_
   intro w40 hS41
   have hS42:=hS41.pick2
   refine rS 3 (.tmp 5) (.const (.int .i64 0)) 0 (.int .i64 0) [.int .i64 0] [.int .i64 0] hS42 ?_
   intro w43 hS44
   have hS45:=hS44.pick2
   refine rS 25 (.tmp 6) (.tmp 16) 0 (.iface 37 (.int .i64 4)) [.iface 37 (.int .i64 4)] [.iface 37 (.int .i64 4)] hS45 ?_
   intro w46 hS47
   refine sR 1 td180 ?_
   have hS49:=hS47.nilrow none 68 6
   have hS51:=hS49.pick1
   have hS52:=hS51.drop
   have hS53:=hS52.pick1
   have hS54:=hS53.drop
   have hS55:=hS54.pick1
   have hS56:=hS55.drop
   refine runs_ret (fn:=Tryz.f27) (v:=.tuple #[.slice none 0 0,.int .i64 0,.iface 37 (.int .i64 4)]) Tryz.func27 (resl_run (fn:=Tryz.f27) (by kernel_rfl) (.cell (t:=4) (ty:=23) (by kernel_rfl) (loads_at 0 (hS47.blk 2 rfl) (by kernel_rfl) (by kernel_rfl)) (.cell (t:=5) (ty:=3) (by kernel_rfl) (loads_at 0 (hS47.blk 1 rfl) (by kernel_rfl) (by kernel_rfl)) (.cell (t:=6) (ty:=25) (by kernel_rfl) (loads_at 0 (hS47.blk 0 rfl) (by kernel_rfl) (by kernel_rfl)) .nil)))) ?_
   cases Option.some.inj hp38
   exact hR _ _ ⟨none,0,(.iface 37 (.int .i64 4)),Z,(Zm.Le.refl _),rfl,hS56,(RepE.of_num)⟩
  refine sR 7 [.inRegion (opsOf (cd27 [1,1,0])) [1],.code (cd27 [1,1,1])] ?_
  refine r_defer (c:=(cd27 [1,1,0])) (i:=1) (d:=none) (dd:={ target:=.fn (.func 45) #[.pointer (some ⟨b1,0,none⟩),.pointer (some ⟨b5,0,none⟩),.pointer (some ⟨b9,0,none⟩)],args:=#[] }) (by kernel_rfl) (by kernel_rfl) (by kernel_rfl) (by kernel_rfl) ?_
  refine sR 6 [.inRegion (opsOf (cd27 [1,1,1,0])) [3,4],.code (cd27 [1,1,1,1])] ?_
  refine r_box (c:=(cd27 [1,1,1,0])) (i:=3) (d:=(some 21)) (ty:=112) (x:=(.tmp 20)) (v:=.agg ([.slice Aa0 a0.length ca0,.int .i64 a1] ++ (enc_api_Token (⟨0,(⟨#[]⟩ : ByteArray),0,0,0,0,0⟩ : api_Token)) ++ [.int .i64 0,.slice none 0 0] : List Value).toArray) (t:=114) (cs:=[.slice Aa0 a0.length ca0,.int .i64 a1] ++ (enc_api_Token (⟨0,(⟨#[]⟩ : ByteArray),0,0,0,0,0⟩ : api_Token)) ++ [.int .i64 0,.slice none 0 0]) hS11 (by kernel_rfl) (by kernel_rfl) (by kernel_rfl) (by kernel_rfl) ?_
  intro b59 w60 hS61
  refine sR 5 [.inRegion (opsOf (cd27 [1,1,1,1,0])) [1],.code (cd27 [1,1,1,1,1])] ?_
  have hS64:=hS61.nilrow none 68 6
  obtain ⟨q74,hr72,hp73⟩:=bind_some' hp58
  have hS79:=hS64.pick1
  refine rCB (cond_reader__cond_2.ok (cond_reader__not.f fuelN) cond_reader__not.ok hr72 hS79 ha0 hE) ?_
  intro e78 w77 hQ76
  rcases q74 with pe75 | ⟨t65,t66,t67,t68,t69⟩
  all_goals try dsimp only at hp73
  ·obtain ⟨v80,Z81,hz82,rfl,hS83,he84⟩:=hQ76
   refine .inr ⟨_,rfl,?_⟩
   refine raised_ds Tryz.func27 ?_
   obtain ⟨⟨t86,t87,t88⟩,hr92,hp93⟩:=bind_some' hp73
   try dsimp only at hp93
   have hS96:=hS83.pick1
   have hS97:=hS96.pick2
   refine leaves_one (fun h => nomatch h) (by kernel_rfl) rfl (cond_Take_1.ok ([] : List api_Node) 0 pe75 b1 none 0 b5 b9 v80 hS97 (SlZ.nil _ _ _ _ _) he84 hr92) ?_
   rintro _ w98 ⟨Q89,Q90,Q91,rfl,hS99,hs100⟩
   refine ⟨⟨_,rfl⟩,?_⟩
   have hS101:=hS99.pick1
   have hS102:=hS101.drop
   have hS103:=hS102.pick1
   have hS104:=hS103.drop
   have hS105:=hS104.pick1
   have hS106:=hS105.drop
   refine leaves_nil (v:=.tuple #[.slice Q89 t86.length Q90,.int .i64 t87,Q91]) (resl_run (fn:=Tryz.f27) (by kernel_rfl) (.cell (t:=4) (ty:=23) (by kernel_rfl) (loads_at 0 (hS99.blk 1 rfl) (by kernel_rfl) (by kernel_rfl)) (.cell (t:=5) (ty:=3) (by kernel_rfl) (loads_at 0 (hS99.blk 2 rfl) (by kernel_rfl) (by kernel_rfl)) (.cell (t:=6) (ty:=25) (by kernel_rfl) (loads_at 0 (hS99.blk 3 rfl) (by kernel_rfl) (by kernel_rfl)) .nil)))) ?_
   cases Option.some.inj hp93
   exact hR _ _ ⟨Q89,Q90,Q91,Z81,hz82,rfl,hS106,hs100⟩
  obtain ⟨Q70,Q71,rfl,hS109⟩:=hQ76
  try dsimp only at hS109
  refine .inl ⟨_,rfl,?_⟩
  refine sR 2 [.code (cd27 [1,1,1,1,1,0]),.code (cd27 [1,1,1,1,1,1])] ?_
  refine r_drawnG (S:=Option (Unit × Option (Unit × Option Unit))) (rank:=(fun st => match st with | none => 0 | some (x110,none) => 1 | some (x110,some (x111,none)) => 2 | some (x110,some (x111,some x112)) => 3)) (C:=(fun st w' => match st with | none => St w0 Z (xrow Q70 Q71 68 6 (t69.flatMap enc_api_Node)::xblk b59 114 ([.slice Aa0 a0.length ca0,.int .i64 t66] ++ (enc_api_Token t67) ++ [.int .i64 t68,.slice Q70 t69.length Q71])::xblk b9 25 ([.nilIface])::xblk b5 3 ([.int .i64 0])::xblk b1 23 ([.slice none 0 0])::fs) w' | some (x110,none) => St w0 Z (xblk b1 23 ([.slice Q70 t69.length Q71])::xrow Q70 Q71 68 6 (t69.flatMap enc_api_Node)::xblk b59 114 ([.slice Aa0 a0.length ca0,.int .i64 t66] ++ (enc_api_Token t67) ++ [.int .i64 t68,.slice Q70 t69.length Q71])::xblk b9 25 ([.nilIface])::xblk b5 3 ([.int .i64 0])::fs) w' | some (x110,some (x111,none)) => St w0 Z (xblk b5 3 ([.int .i64 t66])::xblk b1 23 ([.slice Q70 t69.length Q71])::xrow Q70 Q71 68 6 (t69.flatMap enc_api_Node)::xblk b59 114 ([.slice Aa0 a0.length ca0,.int .i64 t66] ++ (enc_api_Token t67) ++ [.int .i64 t68,.slice Q70 t69.length Q71])::xblk b9 25 ([.nilIface])::fs) w' | some (x110,some (x111,some x112)) => St w0 Z (xblk b9 25 ([.nilIface])::xblk b5 3 ([.int .i64 t66])::xblk b1 23 ([.slice Q70 t69.length Q71])::xrow Q70 Q71 68 6 (t69.flatMap enc_api_Node)::xblk b59 114 ([.slice Aa0 a0.length ca0,.int .i64 t66] ++ (enc_api_Token t67) ++ [.int .i64 t68,.slice Q70 t69.length Q71])::fs) w')) (v:=(fun st => match st with | none => [.pointer (some ⟨b59,0,none⟩),.pointer (some ⟨b59,0,none⟩),.pointer (some ⟨b59,10,none⟩),.slice Q70 t69.length Q71,.pointer (some ⟨b59,0,none⟩),.pointer (some ⟨b59,0,none⟩),.pointer (some ⟨b59,1,none⟩),.int .i64 t66,undef,undef,undef] | some (x110,none) => [.pointer (some ⟨b59,0,none⟩),.pointer (some ⟨b59,0,none⟩),.pointer (some ⟨b59,10,none⟩),.slice Q70 t69.length Q71,.pointer (some ⟨b59,0,none⟩),.pointer (some ⟨b59,0,none⟩),.pointer (some ⟨b59,1,none⟩),.int .i64 t66,undef,undef,undef] | some (x110,some (x111,none)) => [.pointer (some ⟨b59,0,none⟩),.pointer (some ⟨b59,0,none⟩),.pointer (some ⟨b59,10,none⟩),.slice Q70 t69.length Q71,.pointer (some ⟨b59,0,none⟩),.pointer (some ⟨b59,0,none⟩),.pointer (some ⟨b59,1,none⟩),.int .i64 t66,undef,undef,undef] | some (x110,some (x111,some x112)) => [.pointer (some ⟨b59,0,none⟩),.pointer (some ⟨b59,0,none⟩),.pointer (some ⟨b59,10,none⟩),.slice Q70 t69.length Q71,.pointer (some ⟨b59,0,none⟩),.pointer (some ⟨b59,0,none⟩),.pointer (some ⟨b59,1,none⟩),.int .i64 t66,undef,undef,undef])) (c:=(cd27 [1,1,1,1,1,0])) (id:=6) none 8 11 [8,9,10] [0,0,0,0,0,0,0,0,0,1,2] [0,0,0,0,1,1,1,1,1,2,3] [] (by kernel_rfl) (by kernel_rfl) (by kernel_rfl) (by kernel_rfl) (by kernel_rfl) (by kernel_rfl) (by kernel_rfl) (by kernel_rfl) (by kernel_rfl) (by kernel_rfl) rfl hS109.drew ?_ ?_ ?_ ?_
  ·intro st w hC
   rcases st with _ | ⟨x110,_ | ⟨x111,_ | x112⟩⟩
   ·exact nbl rfl
   ·exact nbl rfl
   ·exact nbl rfl
   ·exact nbl rfl
  ·intro i hi he st w hC hr hu
   match i,hi,he with
   | 0,_,_ =>
    rcases st with _ | ⟨x110,_ | ⟨x111,_ | x112⟩⟩
    ·dsimp only at hC
     exact dP (.pointer (some ⟨b59,0,none⟩)) hC
    ·exact absurd hu (nle rfl)
    ·exact absurd hu (nle rfl)
    ·exact absurd hu (nle rfl)
   | 1,_,_ =>
    rcases st with _ | ⟨x110,_ | ⟨x111,_ | x112⟩⟩
    ·dsimp only at hC
     exact dP (.pointer (some ⟨b59,0,none⟩)) hC
    ·exact absurd hu (nle rfl)
    ·exact absurd hu (nle rfl)
    ·exact absurd hu (nle rfl)
   | 2,_,_ =>
    rcases st with _ | ⟨x110,_ | ⟨x111,_ | x112⟩⟩
    ·dsimp only at hC
     exact dP (.pointer (some ⟨b59,10,none⟩)) hC
    ·exact absurd hu (nle rfl)
    ·exact absurd hu (nle rfl)
    ·exact absurd hu (nle rfl)
   | 3,_,_ =>
    rcases st with _ | ⟨x110,_ | ⟨x111,_ | x112⟩⟩
    ·dsimp only at hC
     exact does_run (x_load (t:=23) (x:=(.tmp 26)) (p:=⟨b59,10,none⟩) (v:=.slice Q70 t69.length Q71) (by kernel_rfl) (loads_at 10 (hC.blk 1 rfl) (by kernel_rfl) (by kernel_rfl)) (by kernel_rfl)) rfl hC
    ·exact absurd hu (nle rfl)
    ·exact absurd hu (nle rfl)
    ·exact absurd hu (nle rfl)
   | 4,_,_ =>
    rcases st with _ | ⟨x110,_ | ⟨x111,_ | x112⟩⟩
    ·dsimp only at hC
     exact dP (.pointer (some ⟨b59,0,none⟩)) hC
    ·dsimp only at hC
     exact dP (.pointer (some ⟨b59,0,none⟩)) hC
    ·exact absurd hu (nle rfl)
    ·exact absurd hu (nle rfl)
   | 5,_,_ =>
    rcases st with _ | ⟨x110,_ | ⟨x111,_ | x112⟩⟩
    ·dsimp only at hC
     exact dP (.pointer (some ⟨b59,0,none⟩)) hC
    ·dsimp only at hC
     exact dP (.pointer (some ⟨b59,0,none⟩)) hC
    ·exact absurd hu (nle rfl)
    ·exact absurd hu (nle rfl)
   | 6,_,_ =>
    rcases st with _ | ⟨x110,_ | ⟨x111,_ | x112⟩⟩
    ·dsimp only at hC
     exact dP (.pointer (some ⟨b59,1,none⟩)) hC
    ·dsimp only at hC
     exact dP (.pointer (some ⟨b59,1,none⟩)) hC
    ·exact absurd hu (nle rfl)
    ·exact absurd hu (nle rfl)
   | 7,_,_ =>
    rcases st with _ | ⟨x110,_ | ⟨x111,_ | x112⟩⟩
    ·dsimp only at hC
     exact does_run (x_load (t:=3) (x:=(.tmp 30)) (p:=⟨b59,1,none⟩) (v:=.int .i64 t66) (by kernel_rfl) (loads_at 1 (hC.blk 1 rfl) (by kernel_rfl) (by kernel_rfl)) (by kernel_rfl)) rfl hC
    ·dsimp only at hC
     exact does_run (x_load (t:=3) (x:=(.tmp 30)) (p:=⟨b59,1,none⟩) (v:=.int .i64 t66) (by kernel_rfl) (loads_at 1 (hC.blk 2 rfl) (by kernel_rfl) (by kernel_rfl)) (by kernel_rfl)) rfl hC
    ·exact absurd hu (nle rfl)
    ·exact absurd hu (nle rfl)
   | 8,_,he => exact absurd he (by decide)
   | 9,_,he => exact absurd he (by decide)
   | 10,_,he => exact absurd he (by decide)
   | i + 11,hi,_ => exact absurd hi (by omega)
  ·intro k hk st w hC hr
   match k,hk with
   | 0,_ =>
    rcases st with _ | ⟨x110,_ | ⟨x111,_ | x112⟩⟩
    ·dsimp only at hC
     have hC:=hC.pick4
     refine dS 23 (.tmp 4) (.tmp 27) 0 (.slice Q70 t69.length Q71) [.slice Q70 t69.length Q71] [.slice Q70 t69.length Q71] hC ?_
     intro w2 h2
     refine ⟨some ((),none),rfl,?_,.inl rfl,h2⟩
     intro j hj
     match j,hj with
     | 0,_ => exact rfl
     | 1,_ => exact rfl
     | 2,_ => exact rfl
     | 3,_ => exact rfl
     | 4,_ => exact rfl
     | 5,_ => exact rfl
     | 6,_ => exact rfl
     | 7,_ => exact rfl
     | 8,hj => exact absurd hj (by decide)
     | 9,hj => exact absurd hj (by decide)
     | 10,hj => exact absurd hj (by decide)
     | j + 11,_ => exact rfl
    ·exact absurd hr (Nat.ne_of_beq_eq_false rfl)
    ·exact absurd hr (Nat.ne_of_beq_eq_false rfl)
    ·exact absurd hr (Nat.ne_of_beq_eq_false rfl)
   | 1,_ =>
    rcases st with _ | ⟨x110,_ | ⟨x111,_ | x112⟩⟩
    ·exact absurd hr (Nat.ne_of_beq_eq_false rfl)
    ·dsimp only at hC
     have hC:=hC.pick4
     refine dS 3 (.tmp 5) (.tmp 31) 0 (.int .i64 t66) [.int .i64 t66] [.int .i64 t66] hC ?_
     intro w2 h2
     refine ⟨some (x110,some ((),none)),rfl,?_,.inl rfl,h2⟩
     intro j hj
     match j,hj with
     | 0,_ => exact rfl
     | 1,_ => exact rfl
     | 2,_ => exact rfl
     | 3,_ => exact rfl
     | 4,_ => exact rfl
     | 5,_ => exact rfl
     | 6,_ => exact rfl
     | 7,_ => exact rfl
     | 8,_ => exact rfl
     | 9,hj => exact absurd hj (by decide)
     | 10,hj => exact absurd hj (by decide)
     | j + 11,_ => exact rfl
    ·exact absurd hr (Nat.ne_of_beq_eq_false rfl)
    ·exact absurd hr (Nat.ne_of_beq_eq_false rfl)
   | 2,_ =>
    rcases st with _ | ⟨x110,_ | ⟨x111,_ | x112⟩⟩
    ·exact absurd hr (Nat.ne_of_beq_eq_false rfl)
    ·exact absurd hr (Nat.ne_of_beq_eq_false rfl)
    ·dsimp only at hC
     have hC:=hC.pick4
     refine dS 25 (.tmp 6) (.const (.nilIface)) 0 .nilIface [.nilIface] [.nilIface] hC ?_
     intro w2 h2
     refine ⟨some (x110,some (x111,some ())),rfl,?_,.inl rfl,h2⟩
     intro j hj
     match j,hj with
     | 0,_ => exact rfl
     | 1,_ => exact rfl
     | 2,_ => exact rfl
     | 3,_ => exact rfl
     | 4,_ => exact rfl
     | 5,_ => exact rfl
     | 6,_ => exact rfl
     | 7,_ => exact rfl
     | 8,_ => exact rfl
     | 9,_ => exact rfl
     | 10,hj => exact absurd hj (by decide)
     | j + 11,_ => exact rfl
    ·exact absurd hr (Nat.ne_of_beq_eq_false rfl)
   | k + 3,hk => exact absurd hk (by simp)
  intro st116 w113 hS114 hr115
  rcases st116 with _ | ⟨x110,_ | ⟨x111,_ | x112⟩⟩
  ·exact absurd hr115 (nle rfl)
  ·exact absurd hr115 (nle rfl)
  ·exact absurd hr115 (nle rfl)
  replace hS114 : St w0 Z (xblk b9 25 ([.nilIface])::xblk b5 3 ([.int .i64 t66])::xblk b1 23 ([.slice Q70 t69.length Q71])::xrow Q70 Q71 68 6 (t69.flatMap enc_api_Node)::xblk b59 114 ([.slice Aa0 a0.length ca0,.int .i64 t66] ++ (enc_api_Token t67) ++ [.int .i64 t68,.slice Q70 t69.length Q71])::fs) w113:=hS114
  refine runsL_ret (fn:=Tryz.f27) Tryz.func27 ?_
  obtain ⟨_,hr117,hp118⟩:=bind_some' hp73
  have hS120:=hS114.pick3
  obtain ⟨Z121,hz122,hS123,hs124,hb125⟩:=hS120.lendrow len_api_Node (by omega)
  have hS126:=hS123.pick1
  have hS127:=hS126.pick2
  refine leaves_one (fun h => nomatch h) (by kernel_rfl) rfl (cond_Take_1_1.ok t69 t66 b1 Q70 Q71 b5 b9 hS127 hs124 hr117) ?_
  rintro _ w128 ⟨rfl,hS129⟩
  refine ⟨⟨_,rfl⟩,?_⟩
  have hS130:=hb125 _ _ hS129
  have hS132:=hS130.pick1
  have hS133:=hS132.drop
  have hS134:=hS133.pick1
  have hS135:=hS134.drop
  have hS136:=hS135.pick1
  have hS137:=hS136.drop
  have hS138:=hS137.pick1
  have hS139:=hS138.drop
  refine leaves_nil (v:=.tuple #[.slice Q70 t69.length Q71,.int .i64 t66,.nilIface]) (resl_run (fn:=Tryz.f27) (by kernel_rfl) (.cell (t:=4) (ty:=23) (by kernel_rfl) (loads_at 0 (hS130.blk 1 rfl) (by kernel_rfl) (by kernel_rfl)) (.cell (t:=5) (ty:=3) (by kernel_rfl) (loads_at 0 (hS130.blk 2 rfl) (by kernel_rfl) (by kernel_rfl)) (.cell (t:=6) (ty:=25) (by kernel_rfl) (loads_at 0 (hS130.blk 3 rfl) (by kernel_rfl) (by kernel_rfl)) .nil)))) ?_
  cases Option.some.inj hp118
  exact hR _ _ ⟨Q70,Q71,.nilIface,Z,(Zm.Le.refl _),rfl,hS139,(RepE.of_nil)⟩

noncomputable def cd8 (p : List Nat) : Code := sub (bodyOf Tryz.f8) p
abbrev p8_8:=cd8 [1,1,1,1,0]
abbrev p8_16:=cd8 [1,1,1,1,1,1,1,0,0]
abbrev p8_18:=cd8 [1,1,1,1,1,1,1,1]
abbrev p8_19:=cd8 [1,1,1,1,1,1,1,0,1,0]
abbrev p8_20:=cd8 [1,1,1,1,1,1,1,0,1,1]
abbrev p8_21:=cd8 [1,1,1,1,1,1,1,0,1,1,0,0]
def cond_Parse.f (a0 : ByteArray) : Option ((List api_Node) × PErr) :=
  (lexis_All.f a0 >>= (fun (t1,t2) => (if (!(PErr.isNil t2)) = true then some (([],t2)) else (lexis_Place.f a0 (a0.size : Int) >>= (fun (t24,t25,t26) => (if (t1.length + ([(⟨0,(⟨#[]⟩ : ByteArray),0,t24,t25,(a0.size : Int),(a0.size : Int)⟩ : api_Token)] : List api_Token).length) * 64 ≤ 140737488355328 then (cond_Take.f (t1 ++ ([(⟨0,(⟨#[]⟩ : ByteArray),0,t24,t25,(a0.size : Int),(a0.size : Int)⟩ : api_Token)] : List api_Token)) 0 >>= (fun (t43,t44,t45) => (if (!(PErr.isNil t45)) = true then some (([],t45)) else (if 0 ≤ t44 ∧ t44 < ((t1 ++ ([(⟨0,(⟨#[]⟩ : ByteArray),0,t24,t25,(a0.size : Int),(a0.size : Int)⟩ : api_Token)] : List api_Token)).length : Int) then (if (((gt (t1 ++ ([(⟨0,(⟨#[]⟩ : ByteArray),0,t24,t25,(a0.size : Int),(a0.size : Int)⟩ : api_Token)] : List api_Token)) t44).Kind) != 0) = true then some (([],(.pos ((gt (t1 ++ ([(⟨0,(⟨#[]⟩ : ByteArray),0,t24,t25,(a0.size : Int),(a0.size : Int)⟩ : api_Token)] : List api_Token)) t44).Line) ((gt (t1 ++ ([(⟨0,(⟨#[]⟩ : ByteArray),0,t24,t25,(a0.size : Int),(a0.size : Int)⟩ : api_Token)] : List api_Token)) t44).Col) 70))) else some ((t43,.nil))) else none)))) else none))))))
theorem cond_Parse.ok {a0 : ByteArray} {q0 : List api_Node} {q1 : PErr} (hp0 : cond_Parse.f a0 = some (q0,q1)) (hS0 : St w0 Z (fs) w) (hE : Env Z) :
    Calls Tryz.prog 8 #[.string a0] w (fun e w' => ∃ (QA0 : Option Addr) (Qc0 : Nat) (Qv2 : Value) (Z' : Zm),Zm.Le Z Z' ∧ e = .returned (.tuple #[.slice QA0 q0.length Qc0,Qv2]) ∧ St w0 Z' (xrow QA0 Qc0 68 6 (q0.flatMap enc_api_Node)::fs) w' ∧ RepE 37 78 Z' Qv2 q1):=by
  refine calls_abs ?_; intro R hR
  unfold cond_Parse.f at hp0
  refine calls_of_runs (fn:=Tryz.f8) (c:=cd8 []) Tryz.func8 (by kernel_rfl) (al:=[.string a0]) rfl (n:=62) rfl ?_
  refine sR 8 [iR (cd8 [1,0]) 1 6,.code (cd8 [1,1])] ?_
  obtain ⟨⟨t1,t2⟩,hr6,hp7⟩:=bind_some' hp0
  try dsimp only at hp7
  refine rC (lexis_All.ok hr6 hS0) ?_
  rintro _ w10 ⟨Q3,Q4,Q5,Z12,hz13,rfl,hS11,hs14⟩
  refine ⟨_,rfl,?_⟩
  refine sR 10 [.inRegion (opsOf (cd8 [1,1,0,0])) [1],.code (cd8 [1,1,0,1]),.code (cd8 [1,1,1])] ?_
  refine rV (.binOp .neq 25 (.tmp 17) (.const (.nilIface)) 25) (.bool (!(PErr.isNil t2))) (fun o ho _ => x_errNil (neg:=true) hs14 (by kernel_rfl) (by kernel_rfl) (fun _ _ => (by kernel_rfl)) ho) ?_
  refine r_split (!(PErr.isNil t2)) (fun h15 => ?_) (fun h16 => ?_)
  ·have hp17:=ite_t hp7 h15
   refine sR 8 [.code (cd8 [1,1,0,1,0,1]),.code (cd8 [1,1,1])] ?_
   have hS19:=hS11.nilrow none 68 6
   have hS20:=hS19.pick1
   have hS21:=hS20.drop
   refine rR (.tuple #[.slice none 0 0,Q5]) Tryz.func8 ?_
   cases Option.some.inj hp17
   exact hR _ _ ⟨none,0,Q5,Z12,hz13,rfl,hS21,hs14⟩
  have hp23:=ite_f hp7 h16
  refine sR 8 [iR (cd8 [1,1,1,0]) 3 8,.code (cd8 [1,1,1,1])] ?_
  obtain ⟨⟨t24,t25,t26⟩,hr27,hp28⟩:=bind_some' hp23
  try dsimp only at hp28
  refine rC (lexis_Place.ok hr27 hS11) ?_
  rintro _ w29 ⟨rfl,hS30⟩
  refine ⟨_,rfl,?_⟩
  refine sR 18 [.inRegion (opsOf p8_8) [8,9,10],.code (cd8 [1,1,1,1,1])] ?_
  refine r_lit (c:=p8_8) (i:=8) (d:=(some 36)) (ty:=53) (t:=53) (e:=75) (sz:=7) (n:=1) (parts:=#[(0,(.tmp 35))]) (vs:=[(0,.agg (enc_api_Token (⟨0,(⟨#[]⟩ : ByteArray),0,t24,t25,(a0.size : Int),(a0.size : Int)⟩ : api_Token)).toArray)]) (z:=zeroOf Tryz.prog 75) (cs':=([(⟨0,(⟨#[]⟩ : ByteArray),0,t24,t25,(a0.size : Int),(a0.size : Int)⟩ : api_Token)] : List api_Token).flatMap enc_api_Token) hS30 (by kernel_rfl) (by kernel_rfl) (by kernel_rfl) (by kernel_rfl) (by kernel_rfl) (by decide) (by decide) (by kernel_rfl) rfl (Parts.cons (c:=enc_api_Token (⟨0,(⟨#[]⟩ : ByteArray),0,t24,t25,(a0.size : Int),(a0.size : Int)⟩ : api_Token)) (by kernel_rfl) (len_api_Token _) Parts.nil) rfl ?_
  intro b32 w33 hS34
  have hS35:=hS34.pick1
  obtain ⟨g36,hp37⟩:=ite_some hp28
  refine r_append (c:=p8_8) (i:=9) (d:=(some 37)) (ty:=53) (enc:=enc_api_Token) (e:=75) (u:=75) (t:=53) (t2:=53) (sz:=7) (cp:=Q4) (A:=Q3) (bytes:=64) (xs:=t1) (ys:=([(⟨0,(⟨#[]⟩ : ByteArray),0,t24,t25,(a0.size : Int),(a0.size : Int)⟩ : api_Token)] : List api_Token)) (s:=(.tmp 28)) (x:=(.tmp 36)) (xv:=.slice (some ⟨b32,0,none⟩) ([(⟨0,(⟨#[]⟩ : ByteArray),0,t24,t25,(a0.size : Int),(a0.size : Int)⟩ : api_Token)] : List api_Token).length 1) (info:=infoOf Tryz.prog 75) (z:=zeroOf Tryz.prog 75) (ycs:=([(⟨0,(⟨#[]⟩ : ByteArray),0,t24,t25,(a0.size : Int),(a0.size : Int)⟩ : api_Token)] : List api_Token).flatMap enc_api_Token) hS35 (by kernel_rfl) (by kernel_rfl) (by kernel_rfl) (by kernel_rfl) (by kernel_rfl) (.inl (by kernel_rfl)) (by kernel_rfl) (by kernel_rfl) (by kernel_rfl) (by kernel_rfl) (by kernel_rfl) (by omega) len_api_Token one_api_Token (src_row (hS35.row 1 rfl) (by omega) len_api_Token) rfl g36 (by omega) ?_
  intro A38 c39 w40 hS41
  refine sR 5 [iR (cd8 [1,1,1,1,1,0]) 1 8,.code (cd8 [1,1,1,1,1,1])] ?_
  obtain ⟨⟨t43,t44,t45⟩,hr49,hp50⟩:=bind_some' hp37
  try dsimp only at hp50
  obtain ⟨Z53,hz54,hS55,hs56,-⟩:=hS41.lendrow len_api_Token (by omega)
  refine rC (cond_Take.ok hr49 hS55 hs56 (hE.up (Zm.Le.trans hz13 hz54))) ?_
  rintro _ w57 ⟨Q46,Q47,Q48,Z59,hz60,rfl,hS58,hs61⟩
  refine ⟨_,rfl,?_⟩
  refine sR 12 [.inRegion (opsOf (cd8 [1,1,1,1,1,1,0,0])) [1],.code (cd8 [1,1,1,1,1,1,0,1]),.code (cd8 [1,1,1,1,1,1,1])] ?_
  refine rV (.binOp .neq 25 (.tmp 44) (.const (.nilIface)) 25) (.bool (!(PErr.isNil t45))) (fun o ho _ => x_errNil (neg:=true) hs61 (by kernel_rfl) (by kernel_rfl) (fun _ _ => (by kernel_rfl)) ho) ?_
  refine r_split (!(PErr.isNil t45)) (fun h62 => ?_) (fun h63 => ?_)
  ·have hp64:=ite_t hp50 h62
   refine sR 8 [.code (cd8 [1,1,1,1,1,1,0,1,0,1]),.code (cd8 [1,1,1,1,1,1,1])] ?_
   have hS66:=hS58.nilrow none 68 6
   have hS67:=hS66.pick1
   have hS68:=hS67.drop
   have hS69:=hS68.pick1
   have hS70:=hS69.drop
   refine rR (.tuple #[.slice none 0 0,Q48]) Tryz.func8 ?_
   cases Option.some.inj hp64
   exact hR _ _ ⟨none,0,Q48,Z59,(Zm.Le.trans hz13 (Zm.Le.trans hz54 hz60)),rfl,hS70,hs61⟩
  have hp72:=ite_f hp50 h63
  refine sR 8 [iR p8_16 2 4,.code (cd8 [1,1,1,1,1,1,1,0,1]),.code p8_18] ?_
  obtain ⟨g73,hp74⟩:=ite_some hp72
  obtain ⟨b75,p76,hA77,hc78⟩:=hs56.atF g73.1 g73.2
  refine r_indexAddr (c:=p8_16) (i:=2) (d:=(some 49)) (ty:=0) (t:=53) (e:=75) (n:=(t1 ++ ([(⟨0,(⟨#[]⟩ : ByteArray),0,t24,t25,(a0.size : Int),(a0.size : Int)⟩ : api_Token)] : List api_Token)).length) (cp:=c39) (sz:=7) (kk:=.i64) (x:=(.tmp 47)) (y:=(.tmp 48)) (b:=b75) (o':=p76) (j:=t44) (by kernel_rfl) (by kernel_rfl) (slv (by kernel_rfl) hA77) (by kernel_rfl) (by kernel_rfl) (by kernel_rfl) g73.1 g73.2 ?_
  refine rLa 75 (.tmp 49) ((hc78.mono hz60).cells hS58) ?_
  refine rA 75 (.agg (enc_api_Token (⟨0,(⟨#[]⟩ : ByteArray),0,0,0,0,0⟩ : api_Token)).toArray) (enc_api_Token (⟨0,(⟨#[]⟩ : ByteArray),0,0,0,0,0⟩ : api_Token)) hS58 ?_
  intro b79 w80 hS81
  refine rSA 75 (.tmp 11) (.tmp 50) (enc_api_Token (gt (t1 ++ ([(⟨0,(⟨#[]⟩ : ByteArray),0,t24,t25,(a0.size : Int),(a0.size : Int)⟩ : api_Token)] : List api_Token)) t44)) hS81 (one_api_Token _) ?_
  intro w83 hS84
  refine sR 4 [.inRegion (opsOf p8_19) [1,2],.code p8_20,.code p8_18] ?_
  refine rL1 3 (.tmp 51) 0 (hS84.blk 0 rfl) ?_
  refine sI 1 [.inRegion (opsOf p8_19) [],.code p8_20,.code p8_18] 53 hp74 (fun hp87 => ?_) fun hp111 => ?_
  ·refine sR 3 [.code p8_21,.code (cd8 [1,1,1,1,1,1,1,0,1,1,0,1]),.code p8_18] ?_
   generalize hg89 : (xrow Q46 Q47 68 6 (t43.flatMap enc_api_Node)::xrow (some ⟨b32,0,none⟩) 1 75 7 (([(⟨0,(⟨#[]⟩ : ByteArray),0,t24,t25,(a0.size : Int),(a0.size : Int)⟩ : api_Token)] : List api_Token).flatMap enc_api_Token)::fs) = gs88 at hS84
   refine r_drawnP (S:=Option Nat) (dn:=(fun (st : Option Nat) k => [st.isSome].getD k true)) (C:=(fun st w' => match st with | none => St w0 Z59 (xblk b79 75 (enc_api_Token (gt (t1 ++ ([(⟨0,(⟨#[]⟩ : ByteArray),0,t24,t25,(a0.size : Int),(a0.size : Int)⟩ : api_Token)] : List api_Token)) t44))::gs88) w' | some b90 => St w0 Z59 (xblk b90 80 ([.int .i64 ((gt (t1 ++ ([(⟨0,(⟨#[]⟩ : ByteArray),0,t24,t25,(a0.size : Int),(a0.size : Int)⟩ : api_Token)] : List api_Token)) t44).Line),.int .i64 ((gt (t1 ++ ([(⟨0,(⟨#[]⟩ : ByteArray),0,t24,t25,(a0.size : Int),(a0.size : Int)⟩ : api_Token)] : List api_Token)) t44).Col),.iface 37 (.int .i64 70)])::xblk b79 75 (enc_api_Token (gt (t1 ++ ([(⟨0,(⟨#[]⟩ : ByteArray),0,t24,t25,(a0.size : Int),(a0.size : Int)⟩ : api_Token)] : List api_Token)) t44))::gs88) w')) (v:=(fun st => match st with | none => [.pointer (some ⟨b79,3,none⟩),.int .i64 ((gt (t1 ++ ([(⟨0,(⟨#[]⟩ : ByteArray),0,t24,t25,(a0.size : Int),(a0.size : Int)⟩ : api_Token)] : List api_Token)) t44).Line),.pointer (some ⟨b79,4,none⟩),.int .i64 ((gt (t1 ++ ([(⟨0,(⟨#[]⟩ : ByteArray),0,t24,t25,(a0.size : Int),(a0.size : Int)⟩ : api_Token)] : List api_Token)) t44).Col),.iface 37 (.int .i64 70),.agg #[.int .i64 ((gt (t1 ++ ([(⟨0,(⟨#[]⟩ : ByteArray),0,t24,t25,(a0.size : Int),(a0.size : Int)⟩ : api_Token)] : List api_Token)) t44).Line),.int .i64 ((gt (t1 ++ ([(⟨0,(⟨#[]⟩ : ByteArray),0,t24,t25,(a0.size : Int),(a0.size : Int)⟩ : api_Token)] : List api_Token)) t44).Col),.iface 37 (.int .i64 70)],undef,undef,.slice none 0 0,undef] | some b90 => [.pointer (some ⟨b79,3,none⟩),.int .i64 ((gt (t1 ++ ([(⟨0,(⟨#[]⟩ : ByteArray),0,t24,t25,(a0.size : Int),(a0.size : Int)⟩ : api_Token)] : List api_Token)) t44).Line),.pointer (some ⟨b79,4,none⟩),.int .i64 ((gt (t1 ++ ([(⟨0,(⟨#[]⟩ : ByteArray),0,t24,t25,(a0.size : Int),(a0.size : Int)⟩ : api_Token)] : List api_Token)) t44).Col),.iface 37 (.int .i64 70),.agg #[.int .i64 ((gt (t1 ++ ([(⟨0,(⟨#[]⟩ : ByteArray),0,t24,t25,(a0.size : Int),(a0.size : Int)⟩ : api_Token)] : List api_Token)) t44).Line),.int .i64 ((gt (t1 ++ ([(⟨0,(⟨#[]⟩ : ByteArray),0,t24,t25,(a0.size : Int),(a0.size : Int)⟩ : api_Token)] : List api_Token)) t44).Col),.iface 37 (.int .i64 70)],.pointer (some ⟨b90,0,none⟩),.iface 78 (.pointer (some ⟨b90,0,none⟩)),.slice none 0 0,.iface 78 (.pointer (some ⟨b90,0,none⟩))])) (c:=p8_21) (id:=11) none 0 10 [6] [[],[],[],[],[],[],[],[0],[],[0]] [[],[],[],[],[],[0],[],[],[],[]] [] [true,true,true,true,true,true,true,true,true,true] (by kernel_rfl) (by kernel_rfl) (by kernel_rfl) (by kernel_rfl) (by kernel_rfl) (by kernel_rfl) (by kernel_rfl) (by kernel_rfl) (by kernel_rfl) (fun k hk => match k,hk with | 0,_ => rfl | k + 1,hk => absurd hk (by simp)) hS84.drew ?_ (fun k hk => match k,hk with | 0,_ => rfl | k + 1,hk => absurd hk (by simp)) ?_ ?_ ?_
   ·intro i hi st w hC hd
    match i,hi with
    | 0,_ => (show _ = _; kernel_rfl)
    | 1,_ => (show _ = _; kernel_rfl)
    | 2,_ => (show _ = _; kernel_rfl)
    | 3,_ => (show _ = _; kernel_rfl)
    | 4,_ => (show _ = _; kernel_rfl)
    | 5,_ => (show _ = _; kernel_rfl)
    | 6,_ => (show _ = _; kernel_rfl)
    | 7,_ => (show _ = _; kernel_rfl)
    | 8,_ => (show _ = _; kernel_rfl)
    | 9,_ => (show _ = _; kernel_rfl)
    | i + 10,hi => exact absurd hi (by omega)
   ·intro i hi he st w hC hd hu
    match i,hi,he with
    | 0,_,_ =>
     rcases st with _ | b90
     ·dsimp only at hC
      exact dG (.pointer (some ⟨b79,3,none⟩)) hC
     ·dsimp only at hC
      exact dG (.pointer (some ⟨b79,3,none⟩)) hC
    | 1,_,_ =>
     rcases st with _ | b90
     ·dsimp only at hC
      exact ⟨fun _ => does_run (x_load (t:=3) (x:=(.tmp 54)) (p:=⟨b79,3,none⟩) (v:=.int .i64 ((gt (t1 ++ ([(⟨0,(⟨#[]⟩ : ByteArray),0,t24,t25,(a0.size : Int),(a0.size : Int)⟩ : api_Token)] : List api_Token)) t44).Line)) (by kernel_rfl) (loads_at 3 (hC.blk 0 rfl) (by kernel_rfl) (by kernel_rfl)) (by kernel_rfl)) rfl hC,fun h => absurd h (by decide)⟩
     ·dsimp only at hC
      exact ⟨fun _ => does_run (x_load (t:=3) (x:=(.tmp 54)) (p:=⟨b79,3,none⟩) (v:=.int .i64 ((gt (t1 ++ ([(⟨0,(⟨#[]⟩ : ByteArray),0,t24,t25,(a0.size : Int),(a0.size : Int)⟩ : api_Token)] : List api_Token)) t44).Line)) (by kernel_rfl) (loads_at 3 (hC.blk 1 rfl) (by kernel_rfl) (by kernel_rfl)) (by kernel_rfl)) rfl hC,fun h => absurd h (by decide)⟩
    | 2,_,_ =>
     rcases st with _ | b90
     ·dsimp only at hC
      exact dG (.pointer (some ⟨b79,4,none⟩)) hC
     ·dsimp only at hC
      exact dG (.pointer (some ⟨b79,4,none⟩)) hC
    | 3,_,_ =>
     rcases st with _ | b90
     ·dsimp only at hC
      exact ⟨fun _ => does_run (x_load (t:=3) (x:=(.tmp 56)) (p:=⟨b79,4,none⟩) (v:=.int .i64 ((gt (t1 ++ ([(⟨0,(⟨#[]⟩ : ByteArray),0,t24,t25,(a0.size : Int),(a0.size : Int)⟩ : api_Token)] : List api_Token)) t44).Col)) (by kernel_rfl) (loads_at 4 (hC.blk 0 rfl) (by kernel_rfl) (by kernel_rfl)) (by kernel_rfl)) rfl hC,fun h => absurd h (by decide)⟩
     ·dsimp only at hC
      exact ⟨fun _ => does_run (x_load (t:=3) (x:=(.tmp 56)) (p:=⟨b79,4,none⟩) (v:=.int .i64 ((gt (t1 ++ ([(⟨0,(⟨#[]⟩ : ByteArray),0,t24,t25,(a0.size : Int),(a0.size : Int)⟩ : api_Token)] : List api_Token)) t44).Col)) (by kernel_rfl) (loads_at 4 (hC.blk 1 rfl) (by kernel_rfl) (by kernel_rfl)) (by kernel_rfl)) rfl hC,fun h => absurd h (by decide)⟩
    | 4,_,_ =>
     rcases st with _ | b90
     ·dsimp only at hC
      exact dG (.iface 37 (.int .i64 70)) hC
     ·dsimp only at hC
      exact dG (.iface 37 (.int .i64 70)) hC
    | 5,_,_ =>
     rcases st with _ | b90
     ·dsimp only at hC
      exact dG (.agg #[.int .i64 ((gt (t1 ++ ([(⟨0,(⟨#[]⟩ : ByteArray),0,t24,t25,(a0.size : Int),(a0.size : Int)⟩ : api_Token)] : List api_Token)) t44).Line),.int .i64 ((gt (t1 ++ ([(⟨0,(⟨#[]⟩ : ByteArray),0,t24,t25,(a0.size : Int),(a0.size : Int)⟩ : api_Token)] : List api_Token)) t44).Col),.iface 37 (.int .i64 70)]) hC
     ·exact Bool.noConfusion (hu 0 (by decide))
    | 6,_,he => exact absurd he (by decide)
    | 7,_,_ =>
     rcases st with _ | b90
     ·exact Bool.noConfusion (hd 0 (by decide))
     ·dsimp only at hC
      exact dG (.iface 78 (.pointer (some ⟨b90,0,none⟩))) hC
    | 8,_,_ =>
     rcases st with _ | b90
     ·dsimp only at hC
      exact dG (.slice none 0 0) hC
     ·dsimp only at hC
      exact dG (.slice none 0 0) hC
    | 9,_,_ =>
     rcases st with _ | b90
     ·exact Bool.noConfusion (hd 0 (by decide))
     ·dsimp only at hC
      exact dG (.iface 78 (.pointer (some ⟨b90,0,none⟩))) hC
    | i + 10,hi,_ => exact absurd hi (by omega)
   ·intro k hk st w hC hr hm
    match k,hk with
    | 0,_ =>
     rcases st with _ | b90
     ·dsimp only at hC
      refine does_box (t:=80) (x:=(.tmp 59)) (v:=.agg #[.int .i64 ((gt (t1 ++ ([(⟨0,(⟨#[]⟩ : ByteArray),0,t24,t25,(a0.size : Int),(a0.size : Int)⟩ : api_Token)] : List api_Token)) t44).Line),.int .i64 ((gt (t1 ++ ([(⟨0,(⟨#[]⟩ : ByteArray),0,t24,t25,(a0.size : Int),(a0.size : Int)⟩ : api_Token)] : List api_Token)) t44).Col),.iface 37 (.int .i64 70)]) (cs:=[.int .i64 ((gt (t1 ++ ([(⟨0,(⟨#[]⟩ : ByteArray),0,t24,t25,(a0.size : Int),(a0.size : Int)⟩ : api_Token)] : List api_Token)) t44).Line),.int .i64 ((gt (t1 ++ ([(⟨0,(⟨#[]⟩ : ByteArray),0,t24,t25,(a0.size : Int),(a0.size : Int)⟩ : api_Token)] : List api_Token)) t44).Col),.iface 37 (.int .i64 70)]) hC (by kernel_rfl) (by kernel_rfl) (by kernel_rfl) ?_
      intro b90 w2 h2
      have h2:=h2.pick1
      have h2:=h2.pick1
      refine ⟨some b90,rfl,?_,?_,.inr rfl,h2⟩
      ·intro m hne; match m,hne with
       | 0,hne => exact absurd rfl hne
       | m + 1,_ => exact rfl
      ·intro j hj; match j,hj with
       | 0,hj => exact rfl
       | 1,hj => exact rfl
       | 2,hj => exact rfl
       | 3,hj => exact rfl
       | 4,hj => exact rfl
       | 5,hj => exact rfl
       | 6,hj => exact absurd (by decide) hj
       | 7,hj => exact absurd (by decide) hj
       | 8,hj => exact rfl
       | 9,hj => exact absurd (by decide) hj
       | j + 10,_ => exact rfl
     ·exact Bool.noConfusion hr
    | k + 1,hk => exact absurd hk (by simp)
   intro st95 w92 hS93 hr94
   rcases st95 with _ | b90
   ·exact Bool.noConfusion (hr94 0 (Nat.lt_of_sub_eq_succ rfl))
   replace hS93 : St w0 Z59 (xblk b90 80 ([.int .i64 ((gt (t1 ++ ([(⟨0,(⟨#[]⟩ : ByteArray),0,t24,t25,(a0.size : Int),(a0.size : Int)⟩ : api_Token)] : List api_Token)) t44).Line),.int .i64 ((gt (t1 ++ ([(⟨0,(⟨#[]⟩ : ByteArray),0,t24,t25,(a0.size : Int),(a0.size : Int)⟩ : api_Token)] : List api_Token)) t44).Col),.iface 37 (.int .i64 70)])::xblk b79 75 (enc_api_Token (gt (t1 ++ ([(⟨0,(⟨#[]⟩ : ByteArray),0,t24,t25,(a0.size : Int),(a0.size : Int)⟩ : api_Token)] : List api_Token)) t44))::gs88) w92:=hS93
   subst hg89
   have hS97:=hS93.nilrow none 68 6
   have hS99:=hS97.pick1
   obtain ⟨Z100,hz101,hS102,hs103,-⟩:=hS99.lendblk
   have hS104:=hS102.pick1
   have hS105:=hS104.drop
   have hS106:=hS105.pick1
   have hS107:=hS106.drop
   have hS108:=hS107.pick1
   have hS109:=hS108.drop
   refine rR (.tuple #[.slice none 0 0,.iface 78 (.pointer (some ⟨b90,0,none⟩))]) Tryz.func8 ?_
   cases Option.some.inj hp87
   exact hR _ _ ⟨none,0,(.iface 78 (.pointer (some ⟨b90,0,none⟩))),Z100,(Zm.Le.trans hz13 (Zm.Le.trans hz54 (Zm.Le.trans hz60 hz101))),rfl,hS109,(RepE.of_pos hs103)⟩
  refine sR 9 [.code (cd8 [1,1,1,1,1,1,1,1,1])] ?_
  have hS113:=hS84.drop
  have hS114:=hS113.pick1
  have hS115:=hS114.drop
  refine rR (.tuple #[.slice Q46 t43.length Q47,.nilIface]) Tryz.func8 ?_
  cases Option.some.inj hp111
  exact hR _ _ ⟨Q46,Q47,.nilIface,Z59,(Zm.Le.trans hz13 (Zm.Le.trans hz54 hz60)),rfl,hS115,(RepE.of_nil)⟩

noncomputable def cd47 (p : List Nat) : Code := sub (bodyOf Tryz.f47) p
def weirref05_New.f (a0 : ByteArray) : Option weirref05_Lexer :=
  (if (decide ((a0.size : Int) > 1048576)) = true then some ((⟨a0,0,(⟨(-1),0,1⟩ : weirref05_Fault),0,1,1⟩ : weirref05_Lexer)) else some ((⟨a0,0,(⟨0,0,0⟩ : weirref05_Fault),0,1,1⟩ : weirref05_Lexer)))
theorem weirref05_New.ok {a0 : ByteArray} {q0 : weirref05_Lexer} (hp0 : weirref05_New.f a0 = some q0) (hS0 : St w0 Z (fs) w) :
    Calls Tryz.prog 47 #[.string a0] w (fun e w' => ∃ (Qb0 : Nat),e = .returned (.pointer (some ⟨Qb0,0,none⟩)) ∧ St w0 Z (xblk Qb0 156 (enc_weirref05_Lexer q0)::fs) w'):=by
  refine calls_abs ?_; intro R hR
  unfold weirref05_New.f at hp0
  refine calls_of_runs (fn:=Tryz.f47) (c:=cd47 []) Tryz.func47 (by kernel_rfl) (al:=[.string a0]) rfl (n:=14) rfl ?_
  refine sR 8 [.inRegion (opsOf (cd47 [1,0])) [2,3],.code (cd47 [1,1])] ?_
  refine r_box (c:=(cd47 [1,0])) (i:=2) (d:=(some 6)) (ty:=116) (x:=(.tmp 5)) (v:=.agg (enc_weirref05_Lexer (⟨a0,0,(⟨0,0,0⟩ : weirref05_Fault),0,1,1⟩ : weirref05_Lexer)).toArray) (t:=156) (cs:=enc_weirref05_Lexer (⟨a0,0,(⟨0,0,0⟩ : weirref05_Fault),0,1,1⟩ : weirref05_Lexer)) hS0 (by kernel_rfl) (by kernel_rfl) (by kernel_rfl) (by kernel_rfl) ?_
  intro b1 w2 hS3
  refine sI 8 [.inRegion (opsOf (cd47 [1,1,0,0])) [],.code (cd47 [1,1,0,1]),.code (cd47 [1,1,1])] 9 hp0 (fun hp7 => ?_) fun hp11 => ?_
  ·refine sR 7 [.inRegion (opsOf (cd47 [1,1,0,1,0])) [4],.code (cd47 [1,1,1])] ?_
   refine rSG 29 (.tmp 13) (.tmp 11) 2 (.agg (enc_weirref05_Fault (⟨(-1),0,1⟩ : weirref05_Fault)).toArray) (enc_weirref05_Fault (⟨(-1),0,1⟩ : weirref05_Fault)) (enc_weirref05_Lexer (⟨a0,0,(⟨(-1),0,1⟩ : weirref05_Fault),0,1,1⟩ : weirref05_Lexer)) hS3 (one_weirref05_Fault _) ?_
   intro w8 hS9
   refine sR 6 [.code (cd47 [1,1,1,1])] ?_
   refine rR (.pointer (some ⟨b1,0,none⟩)) Tryz.func47 ?_
   cases Option.some.inj hp7
   exact hR _ _ ⟨b1,rfl,hS9⟩
  refine sR 8 [.code (cd47 [1,1,1,1])] ?_
  refine rR (.pointer (some ⟨b1,0,none⟩)) Tryz.func47 ?_
  cases Option.some.inj hp11
  exact hR _ _ ⟨b1,rfl,hS3⟩

noncomputable def cd75 (p : List Nat) : Code := sub (bodyOf Tryz.f75) p
abbrev p75_6:=cd75 [1,0,0,0,1,0,0,0]
abbrev p75_8:=cd75 [1,0,0,0,1,0,0,1,1,0]
abbrev p75_10:=cd75 [1,0,0,0,1,0,0,1,1,1,0,1,1,1,0,0]
abbrev p75_16:=cd75 [1,0,0,0,1,0,0,1,1,1,0,1,1,1,0,0,1,0,0,1,0,1]
abbrev p75_17:=cd75 [1,0,0,0,1,0,0,1,1,1,0,1,1,1,0,0,1,0,0,1,1,0]
abbrev p75_19:=cd75 [1,0,0,0,1,0,0,1,1,1,0,1,1,1,0,0,1,0,0,1,1,1,1,0]
abbrev td181:List Item:=[.code (cd75 [1,1])]
abbrev td182:List Item:=.inBlock 0::td181
abbrev td183:List Item:=.inLoop (cd75 [1,0,0,0])::td182
abbrev td184:List Item:=.code (cd75 [1,0,0,0])::td183
abbrev td185:List Item:=.inBlock 1::td183
abbrev td186:List Item:=.inBlock 2::td185
abbrev td187:List Item:=.code (cd75 [1,0,0,0,1,0,0,1])::td186
abbrev td188:List Item:=.code (cd75 [1,0,0,0,1,0,0,1,1,1])::td186
abbrev td189:List Item:=.inBlock 3::td186
abbrev td190:List Item:=.inLoop p75_10::td189
abbrev td191:List Item:=.code p75_10::td190
abbrev td192:List Item:=.inBlock 4::td190
abbrev td193:List Item:=.inBlock 5::td192
abbrev td194:List Item:=.code (cd75 [1,0,0,0,1,0,0,1,1,1,0,1,1,1,0,0,1,0,0,1,1,1])::td193
abbrev td195:List Item:=.code (cd75 [1,0,0,0,1,0,0,1,1,1,0,1,1,1,0,0,1,0,0,1,1,1,1,1])::td193
abbrev td196:List Item:=.code (cd75 [1,0,0,0,1,0,0,1,1,1,1,1])::td186
def weirref05_blanks.l1 (a0 : ByteArray) (t12 t73 t74 : Int) : Option (Sum Int (Sum Int (Int × Int))) :=
  (if (decide (t74 > 0)) = true then (if (decide ((IntKind.i64.wrap (t73 + 1)) ≥ (a0.size : Int))) = true then some (.inr (.inr ((t73,t12)))) else (if 0 ≤ t73 ∧ t73 < (a0.size : Int) then (if ((byt a0 t73) == 40) = true then (if 0 ≤ (IntKind.i64.wrap (t73 + 1)) ∧ (IntKind.i64.wrap (t73 + 1)) < (a0.size : Int) then (if ((byt a0 (IntKind.i64.wrap (t73 + 1))) == 42) = true then (weirref05_blanks.l1 a0 t12 (IntKind.i64.wrap (t73 + 2)) (IntKind.i64.wrap (t74 + 1))) else (if 0 ≤ t73 ∧ t73 < (a0.size : Int) then (if ((byt a0 t73) == 42) = true then (if 0 ≤ (IntKind.i64.wrap (t73 + 1)) ∧ (IntKind.i64.wrap (t73 + 1)) < (a0.size : Int) then (if ((byt a0 (IntKind.i64.wrap (t73 + 1))) == 41) = true then (weirref05_blanks.l1 a0 t12 (IntKind.i64.wrap (t73 + 2)) (IntKind.i64.wrap (t74 - 1))) else (weirref05_blanks.l1 a0 t12 (IntKind.i64.wrap (t73 + 1)) (id t74))) else none) else (weirref05_blanks.l1 a0 t12 (IntKind.i64.wrap (t73 + 1)) (id t74))) else none)) else none) else (if 0 ≤ t73 ∧ t73 < (a0.size : Int) then (if ((byt a0 t73) == 42) = true then (if 0 ≤ (IntKind.i64.wrap (t73 + 1)) ∧ (IntKind.i64.wrap (t73 + 1)) < (a0.size : Int) then (if ((byt a0 (IntKind.i64.wrap (t73 + 1))) == 41) = true then (weirref05_blanks.l1 a0 t12 (IntKind.i64.wrap (t73 + 2)) (IntKind.i64.wrap (t74 - 1))) else (weirref05_blanks.l1 a0 t12 (IntKind.i64.wrap (t73 + 1)) (id t74))) else none) else (weirref05_blanks.l1 a0 t12 (IntKind.i64.wrap (t73 + 1)) (id t74))) else none)) else none)) else some (.inl t73))
 partial_fixpoint
def weirref05_blanks.l0 (a0 : ByteArray) (t12 : Int) : Option (Sum Int (Int × Int)) :=
  (if (decide (t12 < (a0.size : Int))) = true then (if 0 ≤ t12 ∧ t12 < (a0.size : Int) then (if ((byt a0 t12) == 32) = true then (weirref05_blanks.l0 a0 (IntKind.i64.wrap (t12 + 1))) else (if 0 ≤ t12 ∧ t12 < (a0.size : Int) then (if ((byt a0 t12) == 9) = true then (weirref05_blanks.l0 a0 (IntKind.i64.wrap (t12 + 1))) else (if 0 ≤ t12 ∧ t12 < (a0.size : Int) then (if ((byt a0 t12) == 10) = true then (weirref05_blanks.l0 a0 (IntKind.i64.wrap (t12 + 1))) else (if 0 ≤ t12 ∧ t12 < (a0.size : Int) then (if ((byt a0 t12) == 13) = true then (weirref05_blanks.l0 a0 (IntKind.i64.wrap (t12 + 1))) else (if 0 ≤ t12 ∧ t12 < (a0.size : Int) then (if ((byt a0 t12) == 40) = true then (if (decide ((IntKind.i64.wrap (t12 + 1)) < (a0.size : Int))) = true then (if 0 ≤ (IntKind.i64.wrap (t12 + 1)) ∧ (IntKind.i64.wrap (t12 + 1)) < (a0.size : Int) then (if ((byt a0 (IntKind.i64.wrap (t12 + 1))) == 42) = true then (weirref05_blanks.l1 a0 t12 (IntKind.i64.wrap (t12 + 2)) 1 >>= (fun | .inl t66 => (weirref05_blanks.l0 a0 t66) | .inr e => some e)) else some (.inr ((t12,(-1))))) else none) else some (.inr ((t12,(-1))))) else some (.inr ((t12,(-1))))) else none)) else none)) else none)) else none)) else none) else some (.inl t12))
 partial_fixpoint
def weirref05_blanks.f (a0 : ByteArray) (a1 : Int) : Option (Int × Int) :=
  (weirref05_blanks.l0 a0 a1 >>= (fun | .inl t4 => some ((t4,(-1))) | .inr e => some e))
theorem weirref05_blanks.ok {a0 : ByteArray} {a1 q0 q1 : Int} (hp0 : weirref05_blanks.f a0 a1 = some (q0,q1)) (hS0 : St w0 Z (fs) w) :
    Calls Tryz.prog 75 #[.string a0,.int .i64 a1] w (fun e w' => e = .returned (.tuple #[.int .i64 q0,.int .i64 q1]) ∧ St w0 Z (fs) w'):=by
  refine calls_abs ?_; intro R hR
  unfold weirref05_blanks.f at hp0
  refine calls_of_runs (fn:=Tryz.f75) (c:=cd75 []) Tryz.func75 (by kernel_rfl) (al:=[.string a0,.int .i64 a1]) rfl (n:=103) rfl ?_
  refine sR 8 td184 ?_
  obtain ⟨v1,hv2,hp3⟩:=bind_some' hp0
  have hq7 : ∀ x,Sum.inr x = v1 → x = (q0,q1):=by intro x hx; subst hx; simpa using hp3
  have J8 : ∀ (t4 : Int) (he10 : Sum.inl t4 = v1) (l9 : List Value) (w5 : World) (hS6 : St w0 Z (fs) w5),Runs Tryz.prog (fx 75) td181 (fill (mk 105 [(1,.int .i64 t4)]) l9) w5 R:=by
   intro t4 he10 l9 w5 hS6
   subst he10
   try dsimp only at hp3
   refine sR 6 [.code (cd75 [1,1,1])] ?_
   refine rR (.tuple #[.int .i64 t4,.int .i64 (-1)]) Tryz.func75 ?_
   cases Option.some.inj hp3
   exact hR _ _ ⟨rfl,hS6⟩
  have L21 : ∀ (t12 : Int) (e16 : Sum Int (Int × Int)),weirref05_blanks.l0 a0 t12 = some e16 → e16 = v1 → ∀ (l15 : List Value) (w13 : World) (hS14 : St w0 Z (fs) w13),Runs Tryz.prog (fx 75) td184 (fill (mk 105 [(0,.string a0),(1,.int .i64 t12)]) l15) w13 R:=by
   refine weirref05_blanks.l0.partial_correctness a0 (fun t12 e16 => e16 = v1 → ∀ (l15 : List Value) (w13 : World) (hS14 : St w0 Z (fs) w13),Runs Tryz.prog (fx 75) td184 (fill (mk 105 [(0,.string a0),(1,.int .i64 t12)]) l15) w13 R) ?_
   intro rec20 ih19 t12 e16 hb18 he17 l15 w13 hS14
   have hq22 : ∀ x,Sum.inr x = e16 → x = (q0,q1):=fun x hx => hq7 x (hx.trans he17)
   refine sI 7 (.inRegion (opsOf (cd75 [1,0,0,0,0,0])) []::.code (cd75 [1,0,0,0,0,1])::.code (cd75 [1,0,0,0,1])::td183) 11 hb18 (fun hp25 => ?_) fun hp136 => ?_
   ·refine sR 9 (iR p75_6 2 21::td187) ?_
    obtain ⟨g26,hp27⟩:=ite_some hp25
    refine rV (.index 9 (.tmp 14) (.tmp 15)) (.int .u8 (byt a0 t12)) (fun o ho _ => x_indexStr (kk:=.i64) (by kernel_rfl) (by kernel_rfl) (by kernel_rfl) g26.1 g26.2 ho) ?_
    refine sI 1 (iR p75_6 4 19::td187) 17 hp27 (fun hp30 => ?_) fun hp31 => ?_
    ·refine sR 28 td183 ?_
     refine sR 1 td184 ?_
     exact rF _ (ih19 (IntKind.i64.wrap (t12 + 1)) _ hp30 he17 _ _ hS14)
    refine sR 3 (iR p75_6 7 16::td187) ?_
    obtain ⟨g32,hp33⟩:=ite_some hp31
    refine rV (.index 9 (.tmp 19) (.tmp 20)) (.int .u8 (byt a0 t12)) (fun o ho _ => x_indexStr (kk:=.i64) (by kernel_rfl) (by kernel_rfl) (by kernel_rfl) g32.1 g32.2 ho) ?_
    refine sI 1 (iR p75_6 9 14::td187) 22 hp33 (fun hp36 => ?_) fun hp37 => ?_
    ·refine sR 23 td183 ?_
     refine sR 1 td184 ?_
     exact rF _ (ih19 (IntKind.i64.wrap (t12 + 1)) _ hp36 he17 _ _ hS14)
    refine sR 4 (iR p75_6 13 10::td187) ?_
    obtain ⟨g38,hp39⟩:=ite_some hp37
    refine rV (.index 9 (.tmp 25) (.tmp 26)) (.int .u8 (byt a0 t12)) (fun o ho _ => x_indexStr (kk:=.i64) (by kernel_rfl) (by kernel_rfl) (by kernel_rfl) g38.1 g38.2 ho) ?_
    refine sI 1 (iR p75_6 15 8::td187) 28 hp39 (fun hp42 => ?_) fun hp43 => ?_
    ·refine sR 17 td183 ?_
     refine sR 1 td184 ?_
     exact rF _ (ih19 (IntKind.i64.wrap (t12 + 1)) _ hp42 he17 _ _ hS14)
    refine sR 4 (iR p75_6 19 4::td187) ?_
    obtain ⟨g44,hp45⟩:=ite_some hp43
    refine rV (.index 9 (.tmp 31) (.tmp 32)) (.int .u8 (byt a0 t12)) (fun o ho _ => x_indexStr (kk:=.i64) (by kernel_rfl) (by kernel_rfl) (by kernel_rfl) g44.1 g44.2 ho) ?_
    refine sI 1 (.inRegion (opsOf p75_6) [21,22]::td187) 34 hp45 (fun hp48 => ?_) fun hp49 => ?_
    ·refine sR 11 td183 ?_
     refine sR 1 td184 ?_
     exact rF _ (ih19 (IntKind.i64.wrap (t12 + 1)) _ hp48 he17 _ _ hS14)
    refine sR 8 (iR p75_8 2 17::td188) ?_
    obtain ⟨g50,hp51⟩:=ite_some hp49
    refine rV (.index 9 (.tmp 39) (.tmp 40)) (.int .u8 (byt a0 t12)) (fun o ho _ => x_indexStr (kk:=.i64) (by kernel_rfl) (by kernel_rfl) (by kernel_rfl) g50.1 g50.2 ho) ?_
    refine sI 1 (iR p75_8 4 15::td188) 42 hp51 (fun hp54 => ?_) fun hp134 => ?_
    ·refine sI 6 (iR p75_8 10 9::td188) 48 hp54 (fun hp57 => ?_) fun hp132 => ?_
     ·refine sR 5 (iR p75_8 15 4::td188) ?_
      obtain ⟨g58,hp59⟩:=ite_some hp57
      refine rV (.index 9 (.tmp 51) (.tmp 53)) (.int .u8 (byt a0 (IntKind.i64.wrap (t12 + 1)))) (fun o ho _ => x_indexStr (kk:=.i64) (by kernel_rfl) (by kernel_rfl) (by kernel_rfl) g58.1 g58.2 ho) ?_
      refine sI 1 (.inRegion (opsOf p75_8) [17,18]::td188) 55 hp59 (fun hp62 => ?_) fun hp130 => ?_
      ·refine sR 21 td191 ?_
       obtain ⟨v63,hv64,hp65⟩:=bind_some' hp62
       have hq69 : ∀ x,Sum.inr x = v63 → x = e16:=by intro x hx; subst hx; simpa using hp65
       have J70 : ∀ (t66 : Int) (he72 : Sum.inl t66 = v63) (l71 : List Value) (w67 : World) (hS68 : St w0 Z (fs) w67),Runs Tryz.prog (fx 75) td186 (fill (mk 105 [(0,.string a0),(1,.int .i64 t66)]) l71) w67 R:=by
        intro t66 he72 l71 w67 hS68
        subst he72
        try dsimp only at hp65
        refine sR 2 td183 ?_
        refine sR 1 td184 ?_
        exact rF _ (ih19 t66 _ hp65 he17 _ _ hS68)
       have L83 : ∀ (t73 t74 : Int) (e78 : Sum Int (Sum Int (Int × Int))),weirref05_blanks.l1 a0 t12 t73 t74 = some e78 → e78 = v63 → ∀ (l77 : List Value) (w75 : World) (hS76 : St w0 Z (fs) w75),Runs Tryz.prog (fx 75) td191 (fill (mk 105 [(0,.string a0),(1,.int .i64 t73),(6,.int .i64 t12),(7,.int .i64 t74)]) l77) w75 R:=by
        refine weirref05_blanks.l1.partial_correctness a0 t12 (fun t73 t74 e78 => e78 = v63 → ∀ (l77 : List Value) (w75 : World) (hS76 : St w0 Z (fs) w75),Runs Tryz.prog (fx 75) td191 (fill (mk 105 [(0,.string a0),(1,.int .i64 t73),(6,.int .i64 t12),(7,.int .i64 t74)]) l77) w75 R) ?_
        intro rec82 ih81 t73 t74 e78 hb80 he79 l77 w75 hS76
        have hq84 : ∀ x,Sum.inr x = e78 → x = e16:=fun x hx => hq69 x (hx.trans he79)
        refine sI 5 (.inRegion (opsOf (cd75 [1,0,0,0,1,0,0,1,1,1,0,1,1,1,0,0,0,0])) []::.code (cd75 [1,0,0,0,1,0,0,1,1,1,0,1,1,1,0,0,0,1])::.code (cd75 [1,0,0,0,1,0,0,1,1,1,0,1,1,1,0,0,1])::td190) 61 hb80 (fun hp87 => ?_) fun hp129 => ?_
        ·refine sI 12 (.inRegion (opsOf (cd75 [1,0,0,0,1,0,0,1,1,1,0,1,1,1,0,0,1,0,0,0])) [5]::.code (cd75 [1,0,0,0,1,0,0,1,1,1,0,1,1,1,0,0,1,0,0,1])::td193) 69 hp87 (fun hp90 => ?_) fun hp92 => ?_
         ·refine sR 10 (.code p75_16::td193) ?_
          refine r_isret (c:=p75_16) (by kernel_rfl) ?_
          refine rR (.tuple #[.int .i64 t73,.int .i64 t12]) Tryz.func75 ?_
          cases hq22 _ (hq84 _ (Option.some.inj hp90))
          exact hR _ _ ⟨rfl,hS76⟩
         refine sR 7 (iR p75_17 2 10::td194) ?_
         obtain ⟨g93,hp94⟩:=ite_some hp92
         refine rV (.index 9 (.tmp 73) (.tmp 74)) (.int .u8 (byt a0 t73)) (fun o ho _ => x_indexStr (kk:=.i64) (by kernel_rfl) (by kernel_rfl) (by kernel_rfl) g93.1 g93.2 ho) ?_
         refine sI 1 (iR p75_17 4 8::td194) 76 hp94 (fun hp97 => ?_) fun hp116 => ?_
         ·refine sR 4 (iR p75_17 8 4::td194) ?_
          obtain ⟨g98,hp99⟩:=ite_some hp97
          refine rV (.index 9 (.tmp 78) (.tmp 80)) (.int .u8 (byt a0 (IntKind.i64.wrap (t73 + 1)))) (fun o ho _ => x_indexStr (kk:=.i64) (by kernel_rfl) (by kernel_rfl) (by kernel_rfl) g98.1 g98.2 ho) ?_
          refine sI 1 (.inRegion (opsOf p75_17) [10,11]::td194) 82 hp99 (fun hp102 => ?_) fun hp103 => ?_
          ·refine sR 17 td190 ?_
           refine sR 1 td191 ?_
           exact rF _ (ih81 (IntKind.i64.wrap (t73 + 2)) (IntKind.i64.wrap (t74 + 1)) _ hp102 he79 _ _ hS76)
          refine sR 8 (iR p75_19 2 10::td195) ?_
          obtain ⟨g104,hp105⟩:=ite_some hp103
          refine rV (.index 9 (.tmp 89) (.tmp 90)) (.int .u8 (byt a0 t73)) (fun o ho _ => x_indexStr (kk:=.i64) (by kernel_rfl) (by kernel_rfl) (by kernel_rfl) g104.1 g104.2 ho) ?_
          refine sI 1 (iR p75_19 4 8::td195) 92 hp105 (fun hp108 => ?_) fun hp115 => ?_
          ·refine sR 4 (iR p75_19 8 4::td195) ?_
           obtain ⟨g109,hp110⟩:=ite_some hp108
           refine rV (.index 9 (.tmp 94) (.tmp 96)) (.int .u8 (byt a0 (IntKind.i64.wrap (t73 + 1)))) (fun o ho _ => x_indexStr (kk:=.i64) (by kernel_rfl) (by kernel_rfl) (by kernel_rfl) g109.1 g109.2 ho) ?_
           refine sI 1 (.inRegion (opsOf p75_19) [10,11]::td195) 98 hp110 (fun hp113 => ?_) fun hp114 => ?_
           ·refine sR 17 td190 ?_
            refine sR 1 td191 ?_
            exact rF _ (ih81 (IntKind.i64.wrap (t73 + 2)) (IntKind.i64.wrap (t74 - 1)) _ hp113 he79 _ _ hS76)
           refine sR 11 td190 ?_
           refine sR 1 td191 ?_
           exact rF _ (ih81 (IntKind.i64.wrap (t73 + 1)) (id t74) _ hp114 he79 _ _ hS76)
          refine sR 17 td190 ?_
          refine sR 1 td191 ?_
          exact rF _ (ih81 (IntKind.i64.wrap (t73 + 1)) (id t74) _ hp115 he79 _ _ hS76)
         refine sR 14 (iR p75_19 2 10::td195) ?_
         obtain ⟨g117,hp118⟩:=ite_some hp116
         refine rV (.index 9 (.tmp 89) (.tmp 90)) (.int .u8 (byt a0 t73)) (fun o ho _ => x_indexStr (kk:=.i64) (by kernel_rfl) (by kernel_rfl) (by kernel_rfl) g117.1 g117.2 ho) ?_
         refine sI 1 (iR p75_19 4 8::td195) 92 hp118 (fun hp121 => ?_) fun hp128 => ?_
         ·refine sR 4 (iR p75_19 8 4::td195) ?_
          obtain ⟨g122,hp123⟩:=ite_some hp121
          refine rV (.index 9 (.tmp 94) (.tmp 96)) (.int .u8 (byt a0 (IntKind.i64.wrap (t73 + 1)))) (fun o ho _ => x_indexStr (kk:=.i64) (by kernel_rfl) (by kernel_rfl) (by kernel_rfl) g122.1 g122.2 ho) ?_
          refine sI 1 (.inRegion (opsOf p75_19) [10,11]::td195) 98 hp123 (fun hp126 => ?_) fun hp127 => ?_
          ·refine sR 17 td190 ?_
           refine sR 1 td191 ?_
           exact rF _ (ih81 (IntKind.i64.wrap (t73 + 2)) (IntKind.i64.wrap (t74 - 1)) _ hp126 he79 _ _ hS76)
          refine sR 11 td190 ?_
          refine sR 1 td191 ?_
          exact rF _ (ih81 (IntKind.i64.wrap (t73 + 1)) (id t74) _ hp127 he79 _ _ hS76)
         refine sR 17 td190 ?_
         refine sR 1 td191 ?_
         exact rF _ (ih81 (IntKind.i64.wrap (t73 + 1)) (id t74) _ hp128 he79 _ _ hS76)
        refine sR 3 td186 ?_
        exact rF _ (J70 t73 ((Option.some.inj hp129).trans he79) _ _ hS76)
       exact rF _ (L83 (IntKind.i64.wrap (t12 + 2)) 1 _ hv64 rfl _ _ hS14)
      refine sR 10 td196 ?_
      refine rR (.tuple #[.int .i64 t12,.int .i64 (-1)]) Tryz.func75 ?_
      cases hq22 _ (Option.some.inj hp130)
      exact hR _ _ ⟨rfl,hS14⟩
     refine sR 17 td196 ?_
     refine rR (.tuple #[.int .i64 t12,.int .i64 (-1)]) Tryz.func75 ?_
     cases hq22 _ (Option.some.inj hp132)
     exact hR _ _ ⟨rfl,hS14⟩
    refine sR 23 td196 ?_
    refine rR (.tuple #[.int .i64 t12,.int .i64 (-1)]) Tryz.func75 ?_
    cases hq22 _ (Option.some.inj hp134)
    exact hR _ _ ⟨rfl,hS14⟩
   refine sR 3 td181 ?_
   exact rF _ (J8 t12 ((Option.some.inj hp136).trans he17) _ _ hS14)
  exact rF _ (L21 a1 _ hv2 rfl _ _ hS0)

noncomputable def cd115 (p : List Nat) : Code := sub (bodyOf Tryz.f115) p
abbrev p115_0:=cd115 [1,0]
abbrev td197:List Item:=[.code (cd115 [1,1])]
abbrev td198:List Item:=.inRegion (opsOf p115_0) [17,18]::td197
def weirref05_letter.f (a0 : Int) : Option Bool :=
  (if (decide (a0 ≥ 97)) = true then (if (decide (a0 ≤ 122)) = true then some (true) else (if (decide (a0 ≥ 65)) = true then (if (decide (a0 ≤ 90)) = true then some (true) else (if (a0 == 95) = true then some (true) else some (false))) else (if (a0 == 95) = true then some (true) else some (false)))) else (if (decide (a0 ≥ 65)) = true then (if (decide (a0 ≤ 90)) = true then some (true) else (if (a0 == 95) = true then some (true) else some (false))) else (if (a0 == 95) = true then some (true) else some (false))))
theorem weirref05_letter.ok {a0 : Int} {q0 : Bool} (hp0 : weirref05_letter.f a0 = some q0) (hS0 : St w0 Z (fs) w) :
    Calls Tryz.prog 115 #[.int .u8 a0] w (fun e w' => e = .returned (.bool q0) ∧ St w0 Z (fs) w'):=by
  refine calls_abs ?_; intro R hR
  unfold weirref05_letter.f at hp0
  refine calls_of_runs (fn:=Tryz.f115) (c:=cd115 []) Tryz.func115 (by kernel_rfl) (al:=[.int .u8 a0]) rfl (n:=20) rfl ?_
  refine sI 8 (iR p115_0 2 17::td197) 4 hp0 (fun hp3 => ?_) fun hp30 => ?_
  ·refine sI 3 (iR p115_0 5 14::td197) 7 hp3 (fun hp6 => ?_) fun hp8 => ?_
   ·refine sR 15 td197 ?_
    refine rR (.bool true) Tryz.func115 ?_
    cases Option.some.inj hp6
    exact hR _ _ ⟨rfl,hS0⟩
   refine sI 4 (iR p115_0 9 10::td197) 11 hp8 (fun hp11 => ?_) fun hp23 => ?_
   ·refine sI 3 (iR p115_0 12 7::td197) 14 hp11 (fun hp14 => ?_) fun hp16 => ?_
    ·refine sR 8 td197 ?_
     refine rR (.bool true) Tryz.func115 ?_
     cases Option.some.inj hp14
     exact hR _ _ ⟨rfl,hS0⟩
    refine sI 5 td198 19 hp16 (fun hp19 => ?_) fun hp21 => ?_
    ·refine sR 3 td197 ?_
     refine rR (.bool true) Tryz.func115 ?_
     cases Option.some.inj hp19
     exact hR _ _ ⟨rfl,hS0⟩
    refine sR 3 td197 ?_
    refine rR (.bool false) Tryz.func115 ?_
    cases Option.some.inj hp21
    exact hR _ _ ⟨rfl,hS0⟩
   refine sI 8 td198 19 hp23 (fun hp26 => ?_) fun hp28 => ?_
   ·refine sR 3 td197 ?_
    refine rR (.bool true) Tryz.func115 ?_
    cases Option.some.inj hp26
    exact hR _ _ ⟨rfl,hS0⟩
   refine sR 3 td197 ?_
   refine rR (.bool false) Tryz.func115 ?_
   cases Option.some.inj hp28
   exact hR _ _ ⟨rfl,hS0⟩
  refine sI 7 (iR p115_0 9 10::td197) 11 hp30 (fun hp33 => ?_) fun hp45 => ?_
  ·refine sI 3 (iR p115_0 12 7::td197) 14 hp33 (fun hp36 => ?_) fun hp38 => ?_
   ·refine sR 8 td197 ?_
    refine rR (.bool true) Tryz.func115 ?_
    cases Option.some.inj hp36
    exact hR _ _ ⟨rfl,hS0⟩
   refine sI 5 td198 19 hp38 (fun hp41 => ?_) fun hp43 => ?_
   ·refine sR 3 td197 ?_
    refine rR (.bool true) Tryz.func115 ?_
    cases Option.some.inj hp41
    exact hR _ _ ⟨rfl,hS0⟩
   refine sR 3 td197 ?_
   refine rR (.bool false) Tryz.func115 ?_
   cases Option.some.inj hp43
   exact hR _ _ ⟨rfl,hS0⟩
  refine sI 8 td198 19 hp45 (fun hp48 => ?_) fun hp50 => ?_
  ·refine sR 3 td197 ?_
   refine rR (.bool true) Tryz.func115 ?_
   cases Option.some.inj hp48
   exact hR _ _ ⟨rfl,hS0⟩
  refine sR 3 td197 ?_
  refine rR (.bool false) Tryz.func115 ?_
  cases Option.some.inj hp50
  exact hR _ _ ⟨rfl,hS0⟩

noncomputable def cd117 (p : List Nat) : Code := sub (bodyOf Tryz.f117) p
abbrev p117_1:=cd117 [1,1]
def weirref05_digit.f (a0 : Int) : Option Bool :=
  (if (decide (a0 ≥ 48)) = true then (if (decide (a0 ≤ 57)) = true then some (true) else some (false)) else some (false))
theorem weirref05_digit.ok {a0 : Int} {q0 : Bool} (hp0 : weirref05_digit.f a0 = some q0) (hS0 : St w0 Z (fs) w) :
    Calls Tryz.prog 117 #[.int .u8 a0] w (fun e w' => e = .returned (.bool q0) ∧ St w0 Z (fs) w'):=by
  refine calls_abs ?_; intro R hR
  unfold weirref05_digit.f at hp0
  refine calls_of_runs (fn:=Tryz.f117) (c:=cd117 []) Tryz.func117 (by kernel_rfl) (al:=[.int .u8 a0]) rfl (n:=8) rfl ?_
  refine sI 8 [iR (cd117 [1,0]) 2 5,.code p117_1] 4 hp0 (fun hp3 => ?_) fun hp10 => ?_
  ·refine sI 3 [.inRegion (opsOf (cd117 [1,0])) [5,6],.code p117_1] 7 hp3 (fun hp6 => ?_) fun hp8 => ?_
   ·refine sR 3 [.code p117_1] ?_
    refine rR (.bool true) Tryz.func117 ?_
    cases Option.some.inj hp6
    exact hR _ _ ⟨rfl,hS0⟩
   refine sR 3 [.code p117_1] ?_
   refine rR (.bool false) Tryz.func117 ?_
   cases Option.some.inj hp8
   exact hR _ _ ⟨rfl,hS0⟩
  refine sR 6 [.code p117_1] ?_
  refine rR (.bool false) Tryz.func117 ?_
  cases Option.some.inj hp10
  exact hR _ _ ⟨rfl,hS0⟩

noncomputable def cd150 (p : List Nat) : Code := sub (bodyOf Tryz.f150) p
abbrev td199:List Item:=[.code (cd150 [1,1])]
def weirref05_has.f (a0 : ByteArray) (a1 : Int) (a2 : ByteArray) : Option Bool :=
  (if (decide ((IntKind.i64.wrap ((a0.size : Int) - a1)) ≥ (a2.size : Int))) = true then (if 0 ≤ a1 ∧ a1 ≤ (IntKind.i64.wrap (a1 + (a2.size : Int))) ∧ (IntKind.i64.wrap (a1 + (a2.size : Int))) ≤ (a0.size : Int) then (if (seq (a0.extract a1.toNat (IntKind.i64.wrap (a1 + (a2.size : Int))).toNat) a2) = true then some (true) else some (false)) else none) else some (false))
theorem weirref05_has.ok {a0 : ByteArray} {a1 : Int} {a2 : ByteArray} {q0 : Bool} (hp0 : weirref05_has.f a0 a1 a2 = some q0) (hS0 : St w0 Z (fs) w) :
    Calls Tryz.prog 150 #[.string a0,.int .i64 a1,.string a2] w (fun e w' => e = .returned (.bool q0) ∧ St w0 Z (fs) w'):=by
  refine calls_abs ?_; intro R hR
  unfold weirref05_has.f at hp0
  refine calls_of_runs (fn:=Tryz.f150) (c:=cd150 []) Tryz.func150 (by kernel_rfl) (al:=[.string a0,.int .i64 a1,.string a2]) rfl (n:=22) rfl ?_
  refine sI 13 (iR (cd150 [1,0]) 7 12::td199) 13 hp0 (fun hp3 => ?_) fun hp12 => ?_
  ·refine sR 7 (iR (cd150 [1,0]) 14 5::td199) ?_
   obtain ⟨g4,hp5⟩:=ite_some hp3
   refine rV (.slice 9 (.tmp 15) (some (.tmp 16)) (some (.tmp 20)) none) (.string (a0.extract a1.toNat (IntKind.i64.wrap (a1 + (a2.size : Int))).toNat)) (fun o ho _ => x_cutStr_ss (k:=.i64) (k':=.i64) (by kernel_rfl) (by kernel_rfl) (by kernel_rfl) (by kernel_rfl) g4 ho) ?_
   refine sI 2 (.inRegion (opsOf (cd150 [1,0])) [17,18]::td199) 23 hp5 (fun hp8 => ?_) fun hp10 => ?_
   ·refine sR 3 td199 ?_
    refine rR (.bool true) Tryz.func150 ?_
    cases Option.some.inj hp8
    exact hR _ _ ⟨rfl,hS0⟩
   refine sR 3 td199 ?_
   refine rR (.bool false) Tryz.func150 ?_
   cases Option.some.inj hp10
   exact hR _ _ ⟨rfl,hS0⟩
  refine sR 13 td199 ?_
  refine rR (.bool false) Tryz.func150 ?_
  cases Option.some.inj hp12
  exact hR _ _ ⟨rfl,hS0⟩

noncomputable def cd119 (p : List Nat) : Code := sub (bodyOf Tryz.f119) p
abbrev p119_10:=cd119 [1,1,1,1,0,1,0,0,1,0,0,0]
abbrev p119_14:=cd119 [1,1,1,1,0,1,0,0,1,0,0,1,0,1]
abbrev p119_18:=cd119 [1,1,0,1,0,0,1,0,0,0]
abbrev p119_19:=cd119 [1,1,0,1,0,0,1,0,0,1]
abbrev p119_21:=cd119 [1,1,0,1,0,0,1,0,0,1,0,0]
abbrev p119_22:=cd119 [1,1,0,1,0,0,1,0,0,1,0,1]
abbrev td200:List Item:=[.code (cd119 [1,1,1])]
abbrev td201:List Item:=.inBlock 0::td200
abbrev td202:List Item:=.inLoop (cd119 [1,1,0,1,0,0])::td201
abbrev td203:List Item:=.code (cd119 [1,1,0,1,0,0])::td202
abbrev td204:List Item:=[.code (cd119 [1,1,1,1,1])]
abbrev td205:List Item:=.inBlock 2::td204
abbrev td206:List Item:=.inLoop (cd119 [1,1,1,1,0,1,0,0])::td205
abbrev td207:List Item:=.code (cd119 [1,1,1,1,0,1,0,0])::td206
abbrev td208:List Item:=.code (cd119 [1,1,1,1,0,1,0,0,1,1])::td206
abbrev td209:List Item:=.inBlock 3::td208
abbrev td210:List Item:=.code (cd119 [1,1,0,1,0,0,1,1])::td202
abbrev td211:List Item:=.inBlock 1::td210
def weirref05_sign.l1 (a0 : ByteArray) (a1 t26 : Int) : Option (Sum Unit ByteArray) :=
  (if (decide (t26 < 18)) = true then (if 0 ≤ a1 ∧ a1 < (a0.size : Int) then (if 0 ≤ t26 ∧ t26 < ((⟨#[123,125,40,41,91,93,59,44,58,124,61,36,126,38,43,42,63,92]⟩ : ByteArray).size : Int) then (if ((byt a0 a1) == (byt (⟨#[123,125,40,41,91,93,59,44,58,124,61,36,126,38,43,42,63,92]⟩ : ByteArray) t26)) = true then (if 0 ≤ t26 ∧ t26 ≤ (IntKind.i64.wrap (t26 + 1)) ∧ (IntKind.i64.wrap (t26 + 1)) ≤ ((⟨#[123,125,40,41,91,93,59,44,58,124,61,36,126,38,43,42,63,92]⟩ : ByteArray).size : Int) then some (.inr (((⟨#[123,125,40,41,91,93,59,44,58,124,61,36,126,38,43,42,63,92]⟩ : ByteArray).extract t26.toNat (IntKind.i64.wrap (t26 + 1)).toNat))) else none) else (weirref05_sign.l1 a0 a1 (IntKind.i64.wrap (t26 + 1)))) else none) else none) else some (.inl ()))
 partial_fixpoint
def weirref05_sign.l0 (a0 : ByteArray) (a1 t56 : Int) : Option (Sum Unit ByteArray) :=
  (if (decide (t56 < 3)) = true then (if 0 ≤ t56 ∧ t56 < 3 then (weirref05_has.f a0 a1 (vget (vset (vset (vset (Vector.replicate 3 (⟨#[]⟩ : ByteArray)) 0 (⟨#[47,92]⟩ : ByteArray)) 1 (⟨#[92,47]⟩ : ByteArray)) 2 (⟨#[94,45,49]⟩ : ByteArray)) t56) >>= (fun t72 => (if t72 = true then (if 0 ≤ t56 ∧ t56 < 3 then some (.inr ((vget (vset (vset (vset (Vector.replicate 3 (⟨#[]⟩ : ByteArray)) 0 (⟨#[47,92]⟩ : ByteArray)) 1 (⟨#[92,47]⟩ : ByteArray)) 2 (⟨#[94,45,49]⟩ : ByteArray)) t56))) else none) else (weirref05_sign.l0 a0 a1 (IntKind.i64.wrap (t56 + 1)))))) else none) else some (.inl ()))
 partial_fixpoint
def weirref05_sign.f (a0 : ByteArray) (a1 : Int) : Option ByteArray :=
  (weirref05_sign.l0 a0 a1 0 >>= (fun | .inl () => (weirref05_sign.l1 a0 a1 0 >>= (fun | .inl () => some ((⟨#[]⟩ : ByteArray)) | .inr e => some e)) | .inr e => some e))
theorem weirref05_sign.ok {a0 : ByteArray} {a1 : Int} {q0 : ByteArray} (hp0 : weirref05_sign.f a0 a1 = some q0) (hS0 : St w0 Z (fs) w) :
    Calls Tryz.prog 119 #[.string a0,.int .i64 a1] w (fun e w' => e = .returned (.string q0) ∧ St w0 Z (fs) w'):=by
  refine calls_abs ?_; intro R hR
  unfold weirref05_sign.f at hp0
  refine calls_of_runs (fn:=Tryz.f119) (c:=cd119 []) Tryz.func119 (by kernel_rfl) (al:=[.string a0,.int .i64 a1]) rfl (n:=39) rfl ?_
  refine sR 7 [.inRegion (opsOf (cd119 [1,0])) [1,2],.code (cd119 [1,1])] ?_
  refine rA 220 (.agg ((encV encS) (Vector.replicate 3 (⟨#[]⟩ : ByteArray))).toArray) ((encV encS) (Vector.replicate 3 (⟨#[]⟩ : ByteArray))) hS0 ?_
  intro b1 w2 hS3
  refine r_store (c:=(cd119 [1,0])) (i:=2) (d:=none) (ty:=0) (t:=220) (x:=(.tmp 5)) (y:=(.tmp 9)) (b:=b1) (o:=0) (e:=220) (cs:=(encV encS) (Vector.replicate 3 (⟨#[]⟩ : ByteArray))) (v:=.agg ((encV encS) (vset (vset (vset (Vector.replicate 3 (⟨#[]⟩ : ByteArray)) 0 (⟨#[47,92]⟩ : ByteArray)) 1 (⟨#[92,47]⟩ : ByteArray)) 2 (⟨#[94,45,49]⟩ : ByteArray))).toArray) (vs:=(encV encS) (vset (vset (vset (Vector.replicate 3 (⟨#[]⟩ : ByteArray)) 0 (⟨#[47,92]⟩ : ByteArray)) 1 (⟨#[92,47]⟩ : ByteArray)) 2 (⟨#[94,45,49]⟩ : ByteArray))) (cs':=(encV encS) (vset (vset (vset (Vector.replicate 3 (⟨#[]⟩ : ByteArray)) 0 (⟨#[47,92]⟩ : ByteArray)) 1 (⟨#[92,47]⟩ : ByteArray)) 2 (⟨#[94,45,49]⟩ : ByteArray))) hS3 (by kernel_rfl) (by kernel_rfl) (by kernel_rfl) (by kernel_rfl) (by kernel_rfl) (lenK ((len_encV len_encS) _) (by kernel_rfl)) ((one_encV one_encS) _) (by simp only [len_encV len_encS,List.length_cons,List.length_nil,List.length_append]; omega) (over_all (((len_encV len_encS) _).trans ((len_encV len_encS) _).symm)) ?_
  intro w5 hS6
  refine sR 8 td203 ?_
  obtain ⟨v7,hv8,hp9⟩:=bind_some' hp0
  have hq12 : ∀ x,Sum.inr x = v7 → x = q0:=by intro x hx; subst hx; simpa using hp9
  have J13 : ∀ (he15 : Sum.inl () = v7) (l14 : List Value) (w10 : World) (hS11 : St w0 Z (fs) w10),Runs Tryz.prog (fx 119) td200 (fill (mk 41 [(0,.string a0),(1,.int .i64 a1)]) l14) w10 R:=by
   intro he15 l14 w10 hS11
   subst he15
   try dsimp only at hp9
   refine sR 11 td207 ?_
   obtain ⟨v16,hv17,hp18⟩:=bind_some' hp9
   have hq21 : ∀ x,Sum.inr x = v16 → x = q0:=by intro x hx; subst hx; simpa using hp18
   have J22 : ∀ (he24 : Sum.inl () = v16) (l23 : List Value) (w19 : World) (hS20 : St w0 Z (fs) w19),Runs Tryz.prog (fx 119) td204 (fill (mk 41 []) l23) w19 R:=by
    intro he24 l23 w19 hS20
    subst he24
    try dsimp only at hp18
    refine sR 4 [.code (cd119 [1,1,1,1,1,1])] ?_
    refine rR (.string (⟨#[]⟩ : ByteArray)) Tryz.func119 ?_
    cases Option.some.inj hp18
    exact hR _ _ ⟨rfl,hS20⟩
   have L35 : ∀ (t26 : Int) (e30 : Sum Unit ByteArray),weirref05_sign.l1 a0 a1 t26 = some e30 → e30 = v16 → ∀ (l29 : List Value) (w27 : World) (hS28 : St w0 Z (fs) w27),Runs Tryz.prog (fx 119) td207 (fill (mk 41 [(0,.string a0),(1,.int .i64 a1),(7,.string (⟨#[123,125,40,41,91,93,59,44,58,124,61,36,126,38,43,42,63,92]⟩ : ByteArray)),(8,.int .i64 t26)]) l29) w27 R:=by
    refine weirref05_sign.l1.partial_correctness a0 a1 (fun t26 e30 => e30 = v16 → ∀ (l29 : List Value) (w27 : World) (hS28 : St w0 Z (fs) w27),Runs Tryz.prog (fx 119) td207 (fill (mk 41 [(0,.string a0),(1,.int .i64 a1),(7,.string (⟨#[123,125,40,41,91,93,59,44,58,124,61,36,126,38,43,42,63,92]⟩ : ByteArray)),(8,.int .i64 t26)]) l29) w27 R) ?_
    intro rec34 ih33 t26 e30 hb32 he31 l29 w27 hS28
    have hq36 : ∀ x,Sum.inr x = e30 → x = q0:=fun x hx => hq21 x (hx.trans he31)
    refine sI 7 (.inRegion (opsOf (cd119 [1,1,1,1,0,1,0,0,0,0])) []::.code (cd119 [1,1,1,1,0,1,0,0,0,1])::.code (cd119 [1,1,1,1,0,1,0,0,1])::td206) 26 hb32 (fun hp39 => ?_) fun hp55 => ?_
    ·refine sR 6 (.code p119_10::.code (cd119 [1,1,1,1,0,1,0,0,1,0,0,1])::td209) ?_
     refine r_quiet hS28 (c:=p119_10) (id:=11) (by kernel_rfl) (by kernel_rfl) (by kernel_rfl) (is:=[0,1,2,3,4,5,6]) (by kernel_rfl) ?_
     refine qR 2 (rg 2 5) ?_
     obtain ⟨g40,hp41⟩:=ite_some hp39
     refine qV (.index 9 (.tmp 29) (.tmp 30)) (.int .u8 (byt a0 a1)) (fun w hC o ho _ => x_indexStr (kk:=.i64) (by kernel_rfl) (by kernel_rfl) (by kernel_rfl) g40.1 g40.2 ho) ?_
     refine qR 2 [5,6] ?_
     obtain ⟨g42,hp43⟩:=ite_some hp41
     refine qV (.index 9 (.tmp 32) (.tmp 33)) (.int .u8 (byt (⟨#[123,125,40,41,91,93,59,44,58,124,61,36,126,38,43,42,63,92]⟩ : ByteArray) t26)) (fun w hC o ho _ => x_indexStr (kk:=.i64) (by kernel_rfl) (by kernel_rfl) (by kernel_rfl) g42.1 g42.2 ho) ?_
     refine qI 1 [] 35 hp43 (fun hp46 => ?_) fun hp52 => ?_
     ·refine Qs.nil ?_
      intro w47 hS48
      refine sR 7 (.inRegion (opsOf (cd119 [1,1,1,1,0,1,0,0,1,0,0,1,0,0])) [4,5]::.code p119_14::td209) ?_
      obtain ⟨g49,hp50⟩:=ite_some hp46
      refine rV (.slice 9 (.tmp 36) (some (.tmp 37)) (some (.tmp 39)) none) (.string ((⟨#[123,125,40,41,91,93,59,44,58,124,61,36,126,38,43,42,63,92]⟩ : ByteArray).extract t26.toNat (IntKind.i64.wrap (t26 + 1)).toNat)) (fun o ho _ => x_cutStr_ss (k:=.i64) (k':=.i64) (by kernel_rfl) (by kernel_rfl) (by kernel_rfl) (by kernel_rfl) g49 ho) ?_
      refine sR 2 (.code p119_14::td209) ?_
      refine r_isret (c:=p119_14) (by kernel_rfl) ?_
      refine rR (.string ((⟨#[123,125,40,41,91,93,59,44,58,124,61,36,126,38,43,42,63,92]⟩ : ByteArray).extract t26.toNat (IntKind.i64.wrap (t26 + 1)).toNat)) Tryz.func119 ?_
      cases hq36 _ (Option.some.inj hp50)
      exact hR _ _ ⟨rfl,hS48⟩
     refine Qs.nil ?_
     intro w53 hS54
     refine sR 8 td206 ?_
     refine sR 1 td207 ?_
     exact rF _ (ih33 (IntKind.i64.wrap (t26 + 1)) _ hp52 he31 _ _ hS54)
    refine sR 3 td204 ?_
    exact rF _ (J22 ((Option.some.inj hp55).trans he31) _ _ hS28)
   exact rF _ (L35 0 _ hv17 rfl _ _ hS11)
  have L65 : ∀ (t56 : Int) (e60 : Sum Unit ByteArray),weirref05_sign.l0 a0 a1 t56 = some e60 → e60 = v7 → ∀ (l59 : List Value) (w57 : World) (hS58 : St w0 Z (xblk b1 220 ((encV encS) (vset (vset (vset (Vector.replicate 3 (⟨#[]⟩ : ByteArray)) 0 (⟨#[47,92]⟩ : ByteArray)) 1 (⟨#[92,47]⟩ : ByteArray)) 2 (⟨#[94,45,49]⟩ : ByteArray)))::fs) w57),Runs Tryz.prog (fx 119) td203 (fill (mk 41 [(0,.string a0),(1,.int .i64 a1),(5,.pointer (some ⟨b1,0,none⟩)),(6,.int .i64 t56)]) l59) w57 R:=by
   refine weirref05_sign.l0.partial_correctness a0 a1 (fun t56 e60 => e60 = v7 → ∀ (l59 : List Value) (w57 : World) (hS58 : St w0 Z (xblk b1 220 ((encV encS) (vset (vset (vset (Vector.replicate 3 (⟨#[]⟩ : ByteArray)) 0 (⟨#[47,92]⟩ : ByteArray)) 1 (⟨#[92,47]⟩ : ByteArray)) 2 (⟨#[94,45,49]⟩ : ByteArray)))::fs) w57),Runs Tryz.prog (fx 119) td203 (fill (mk 41 [(0,.string a0),(1,.int .i64 a1),(5,.pointer (some ⟨b1,0,none⟩)),(6,.int .i64 t56)]) l59) w57 R) ?_
   intro rec64 ih63 t56 e60 hb62 he61 l59 w57 hS58
   have hq66 : ∀ x,Sum.inr x = e60 → x = q0:=fun x hx => hq12 x (hx.trans he61)
   refine sI 5 (.inRegion (opsOf (cd119 [1,1,0,1,0,0,0,0])) []::.code (cd119 [1,1,0,1,0,0,0,1])::.code (cd119 [1,1,0,1,0,0,1])::td202) 11 hb62 (fun hp69 => ?_) fun hp83 => ?_
   ·refine sR 10 (.inRegion (opsOf p119_18) [3,4,5]::.code p119_19::td211) ?_
    obtain ⟨g70,hp71⟩:=ite_some hp69
    refine r_indexArr (c:=p119_18) (i:=3) (d:=(some 17)) (ty:=0) (t:=220) (e:=9) (sz:=1) (kk:=.i64) (x:=(.tmp 5)) (y:=(.tmp 16)) (b:=b1) (o':=0) (n:=3) (j:=t56) (by kernel_rfl) (by kernel_rfl) (by kernel_rfl) (by kernel_rfl) (by kernel_rfl) (by kernel_rfl) g70.1 g70.2 ?_
    refine rL1 9 (.tmp 17) 0 (cells_vget (hS58.blk 0 rfl) len_encS g70.1 g70.2) ?_
    obtain ⟨t72,hr73,hp74⟩:=bind_some' hp71
    refine rC (weirref05_has.ok hr73 hS58) ?_
    rintro _ w75 ⟨rfl,hS76⟩
    refine ⟨_,rfl,?_⟩
    refine sR 1 (.code p119_19::td211) ?_
    cases t72
    ·have hp77:=ite_f hp74 rfl
     refine sR 8 td202 ?_
     refine sR 1 td203 ?_
     exact rF _ (ih63 (IntKind.i64.wrap (t56 + 1)) _ hp77 he61 _ _ hS76)
    have hp78:=ite_t hp74 rfl
    refine sR 4 (.inRegion (opsOf p119_21) [1,2,3]::.code p119_22::td211) ?_
    obtain ⟨g79,hp80⟩:=ite_some hp78
    refine r_indexArr (c:=p119_21) (i:=1) (d:=(some 21)) (ty:=0) (t:=220) (e:=9) (sz:=1) (kk:=.i64) (x:=(.tmp 5)) (y:=(.tmp 20)) (b:=b1) (o':=0) (n:=3) (j:=t56) (by kernel_rfl) (by kernel_rfl) (by kernel_rfl) (by kernel_rfl) (by kernel_rfl) (by kernel_rfl) g79.1 g79.2 ?_
    refine rL1 9 (.tmp 21) 0 (cells_vget (hS76.blk 0 rfl) len_encS g79.1 g79.2) ?_
    refine sR 2 (.code p119_22::td211) ?_
    have hS81:=hS76.drop
    refine rR (.string (vget (vset (vset (vset (Vector.replicate 3 (⟨#[]⟩ : ByteArray)) 0 (⟨#[47,92]⟩ : ByteArray)) 1 (⟨#[92,47]⟩ : ByteArray)) 2 (⟨#[94,45,49]⟩ : ByteArray)) t56)) Tryz.func119 ?_
    cases hq66 _ (Option.some.inj hp80)
    exact hR _ _ ⟨rfl,hS81⟩
   refine sR 3 td200 ?_
   have hS84:=hS58.drop
   exact rF _ (J13 ((Option.some.inj hp83).trans he61) _ _ hS84)
  exact rF _ (L65 0 _ hv8 rfl _ _ hS6)

noncomputable def cd182 (p : List Nat) : Code := sub (bodyOf Tryz.f182) p
abbrev p182_8:=cd182 [1,1,0,0,1,1,0]
abbrev td212:List Item:=[.code (cd182 [1,1,1])]
abbrev td213:List Item:=.inBlock 0::td212
abbrev td214:List Item:=.code (cd182 [1,1,0,0,1,1,1])::td213
abbrev td215:List Item:=.code (cd182 [1,1,0,0,1,1,1,1,1])::td213
abbrev td216:List Item:=iR (cd182 [1,1,0,0,1,1,1,1,0]) 2 5::td215
abbrev td217:List Item:=.inRegion (opsOf (cd182 [1,1,0,0,1,1,1,1,0])) [5,6]::td215
def weirref04_digit.f (a0 a1 : Int) : Option Int :=
  (((if (decide (a0 ≥ 48)) = true then (if (decide (a0 ≤ 57)) = true then some ((IntKind.i64.wrap (IntKind.u8.wrap (a0 - 48)))) else (if (decide (a0 ≥ 97)) = true then (if (decide (a0 ≤ 102)) = true then some ((IntKind.i64.wrap ((IntKind.i64.wrap (IntKind.u8.wrap (a0 - 97))) + 10))) else (if (decide (a0 ≥ 65)) = true then (if (decide (a0 ≤ 70)) = true then some ((IntKind.i64.wrap ((IntKind.i64.wrap (IntKind.u8.wrap (a0 - 65))) + 10))) else some ((-1))) else some ((-1)))) else (if (decide (a0 ≥ 65)) = true then (if (decide (a0 ≤ 70)) = true then some ((IntKind.i64.wrap ((IntKind.i64.wrap (IntKind.u8.wrap (a0 - 65))) + 10))) else some ((-1))) else some ((-1))))) else (if (decide (a0 ≥ 97)) = true then (if (decide (a0 ≤ 102)) = true then some ((IntKind.i64.wrap ((IntKind.i64.wrap (IntKind.u8.wrap (a0 - 97))) + 10))) else (if (decide (a0 ≥ 65)) = true then (if (decide (a0 ≤ 70)) = true then some ((IntKind.i64.wrap ((IntKind.i64.wrap (IntKind.u8.wrap (a0 - 65))) + 10))) else some ((-1))) else some ((-1)))) else (if (decide (a0 ≥ 65)) = true then (if (decide (a0 ≤ 70)) = true then some ((IntKind.i64.wrap ((IntKind.i64.wrap (IntKind.u8.wrap (a0 - 65))) + 10))) else some ((-1))) else some ((-1))))) : Option Int) >>= (fun t4 => (if (decide (t4 ≥ a1)) = true then some ((-1)) else some (t4))))
theorem weirref04_digit.ok {a0 a1 q0 : Int} (hp0 : weirref04_digit.f a0 a1 = some q0) (hS0 : St w0 Z (fs) w) :
    Calls Tryz.prog 182 #[.int .u8 a0,.int .i64 a1] w (fun e w' => e = .returned (.int .i64 q0) ∧ St w0 Z (fs) w'):=by
  refine calls_abs ?_; intro R hR
  unfold weirref04_digit.f at hp0
  refine calls_of_runs (fn:=Tryz.f182) (c:=cd182 []) Tryz.func182 (by kernel_rfl) (al:=[.int .u8 a0,.int .i64 a1]) rfl (n:=40) rfl ?_
  obtain ⟨v1,hv2,hp3⟩:=bind_some' hp0
  have J7 : ∀ (t4 : Int) (he9 : t4 = v1) (l8 : List Value) (w5 : World) (hS6 : St w0 Z (fs) w5),Runs Tryz.prog (fx 182) td212 (fill (mk 42 [(1,.int .i64 a1),(5,.int .i64 t4)]) l8) w5 R:=by
   intro t4 he9 l8 w5 hS6
   subst he9
   try dsimp only at hp3
   refine sI 6 [.inRegion (opsOf (cd182 [1,1,1,0,0])) [],.code (cd182 [1,1,1,0,1]),.code (cd182 [1,1,1,1])] 40 hp3 (fun hp12 => ?_) fun hp14 => ?_
   ·refine sR 6 [.code (cd182 [1,1,1,0,1,0,1]),.code (cd182 [1,1,1,1])] ?_
    refine rR (.int .i64 (-1)) Tryz.func182 ?_
    cases Option.some.inj hp12
    exact hR _ _ ⟨rfl,hS6⟩
   refine sR 8 [.code (cd182 [1,1,1,1,1])] ?_
   refine rR (.int .i64 t4) Tryz.func182 ?_
   cases Option.some.inj hp14
   exact hR _ _ ⟨rfl,hS6⟩
  refine sI 14 (iR (cd182 [1,1,0,0,0]) 2 5::.code (cd182 [1,1,0,0,1])::td213) 8 hv2 (fun hp18 => ?_) fun hp47 => ?_
  ·refine sI 3 (.inRegion (opsOf (cd182 [1,1,0,0,0])) [5,6]::.code (cd182 [1,1,0,0,1])::td213) 11 hp18 (fun hp21 => ?_) fun hp22 => ?_
   ·refine sR 11 td212 ?_
    exact rF _ (J7 (IntKind.i64.wrap (IntKind.u8.wrap (a0 - 48))) (Option.some.inj hp21) _ _ hS0)
   refine sI 8 (iR p182_8 2 5::td214) 18 hp22 (fun hp25 => ?_) fun hp38 => ?_
   ·refine sI 3 (.inRegion (opsOf p182_8) [5,6]::td214) 21 hp25 (fun hp28 => ?_) fun hp29 => ?_
    ·refine sR 12 td212 ?_
     exact rF _ (J7 (IntKind.i64.wrap ((IntKind.i64.wrap (IntKind.u8.wrap (a0 - 97))) + 10)) (Option.some.inj hp28) _ _ hS0)
    refine sI 8 td216 29 hp29 (fun hp32 => ?_) fun hp37 => ?_
    ·refine sI 3 td217 32 hp32 (fun hp35 => ?_) fun hp36 => ?_
     ·refine sR 12 td212 ?_
      exact rF _ (J7 (IntKind.i64.wrap ((IntKind.i64.wrap (IntKind.u8.wrap (a0 - 65))) + 10)) (Option.some.inj hp35) _ _ hS0)
     refine sR 6 td212 ?_
     exact rF _ (J7 (-1) (Option.some.inj hp36) _ _ hS0)
    refine sR 9 td212 ?_
    exact rF _ (J7 (-1) (Option.some.inj hp37) _ _ hS0)
   refine sI 11 td216 29 hp38 (fun hp41 => ?_) fun hp46 => ?_
   ·refine sI 3 td217 32 hp41 (fun hp44 => ?_) fun hp45 => ?_
    ·refine sR 12 td212 ?_
     exact rF _ (J7 (IntKind.i64.wrap ((IntKind.i64.wrap (IntKind.u8.wrap (a0 - 65))) + 10)) (Option.some.inj hp44) _ _ hS0)
    refine sR 6 td212 ?_
    exact rF _ (J7 (-1) (Option.some.inj hp45) _ _ hS0)
   refine sR 9 td212 ?_
   exact rF _ (J7 (-1) (Option.some.inj hp46) _ _ hS0)
  refine sI 11 (iR p182_8 2 5::td214) 18 hp47 (fun hp50 => ?_) fun hp63 => ?_
  ·refine sI 3 (.inRegion (opsOf p182_8) [5,6]::td214) 21 hp50 (fun hp53 => ?_) fun hp54 => ?_
   ·refine sR 12 td212 ?_
    exact rF _ (J7 (IntKind.i64.wrap ((IntKind.i64.wrap (IntKind.u8.wrap (a0 - 97))) + 10)) (Option.some.inj hp53) _ _ hS0)
   refine sI 8 td216 29 hp54 (fun hp57 => ?_) fun hp62 => ?_
   ·refine sI 3 td217 32 hp57 (fun hp60 => ?_) fun hp61 => ?_
    ·refine sR 12 td212 ?_
     exact rF _ (J7 (IntKind.i64.wrap ((IntKind.i64.wrap (IntKind.u8.wrap (a0 - 65))) + 10)) (Option.some.inj hp60) _ _ hS0)
    refine sR 6 td212 ?_
    exact rF _ (J7 (-1) (Option.some.inj hp61) _ _ hS0)
   refine sR 9 td212 ?_
   exact rF _ (J7 (-1) (Option.some.inj hp62) _ _ hS0)
  refine sI 11 td216 29 hp63 (fun hp66 => ?_) fun hp71 => ?_
  ·refine sI 3 td217 32 hp66 (fun hp69 => ?_) fun hp70 => ?_
   ·refine sR 12 td212 ?_
    exact rF _ (J7 (IntKind.i64.wrap ((IntKind.i64.wrap (IntKind.u8.wrap (a0 - 65))) + 10)) (Option.some.inj hp69) _ _ hS0)
   refine sR 6 td212 ?_
   exact rF _ (J7 (-1) (Option.some.inj hp70) _ _ hS0)
  refine sR 9 td212 ?_
  exact rF _ (J7 (-1) (Option.some.inj hp71) _ _ hS0)

noncomputable def cd170 (p : List Nat) : Code := sub (bodyOf Tryz.f170) p
abbrev p170_3:=cd170 [1,1,1,1,0,0,0,0,0]
abbrev p170_6:=cd170 [1,1,1,1,0,0,0,1,0,0]
abbrev p170_7:=cd170 [1,1,1,1,0,0,0,1,0,1]
abbrev p170_8:=cd170 [1,1,1,1,0,0,0,1,0,1,0,0]
abbrev p170_9:=cd170 [1,1,1,1,0,0,0,1,0,1,0,1]
abbrev td218:List Item:=[.code (cd170 [1,1,1,1,1])]
abbrev td219:List Item:=.inBlock 0::td218
abbrev td220:List Item:=.inLoop (cd170 [1,1,1,1,0,0,0])::td219
abbrev td221:List Item:=.code (cd170 [1,1,1,1,0,0,0])::td220
abbrev td222:List Item:=.code (cd170 [1,1,1,1,0,0,0,1])::td220
abbrev td223:List Item:=.code (cd170 [1,1,1,1,0,0,0,0,1])::td222
abbrev td224:List Item:=.inBlock 1::td220
abbrev td225:List Item:=.code (cd170 [1,1,1,1,0,0,0,1,0,1,1])::td224
def weirref04_digits.l0 (a0 : ByteArray) (a1 a2 t13 : Int) (t14 : Bool) (t15 : Int) : Option (Int × Bool × Int) :=
  (if (decide ((IntKind.i64.wrap (a1 + t15)) < (a0.size : Int))) = true then (if 0 ≤ (IntKind.i64.wrap (a1 + t15)) ∧ (IntKind.i64.wrap (a1 + t15)) < (a0.size : Int) then (weirref04_digit.f (byt a0 (IntKind.i64.wrap (a1 + t15))) a2 >>= (fun t30 => (if (decide (t30 ≥ 0)) = true then (if 0 ≤ (IntKind.i64.wrap (a1 + t15)) ∧ (IntKind.i64.wrap (a1 + t15)) < (a0.size : Int) then (weirref04_digit.f (byt a0 (IntKind.i64.wrap (a1 + t15))) a2 >>= (fun t40 => (if (IntKind.u64.wrap a2) ≠ 0 then (((if (decide (t13 > (IntKind.u64.wrap ((IntKind.u64.wrap (18446744073709551615 - (IntKind.u64.wrap t40))).tdiv (IntKind.u64.wrap a2))))) = true then some (true) else some (t14)) : Option Bool) >>= (fun t50 => (weirref04_digits.l0 a0 a1 a2 (IntKind.u64.wrap ((IntKind.u64.wrap (t13 * (IntKind.u64.wrap a2))) + (IntKind.u64.wrap t40))) t50 (IntKind.i64.wrap (t15 + 1))))) else none))) else none) else some ((t13,t14,t15))))) else none) else some ((t13,t14,t15)))
 partial_fixpoint
def weirref04_digits.f (a0 : ByteArray) (a1 a2 : Int) : Option (Int × Bool × Int) :=
  (weirref04_digits.l0 a0 a1 a2 0 false 0 >>= (fun (t4,t5,t6) => some ((t4,t5,t6))))
theorem weirref04_digits.ok {a0 : ByteArray} {a1 a2 q0 : Int} {q1 : Bool} {q2 : Int} (hp0 : weirref04_digits.f a0 a1 a2 = some (q0,q1,q2)) (hS0 : St w0 Z (fs) w) :
    Calls Tryz.prog 170 #[.string a0,.int .i64 a1,.int .i64 a2] w (fun e w' => e = .returned (.tuple #[.int .u64 q0,.bool q1,.int .i64 q2]) ∧ St w0 Z (fs) w'):=by
  refine calls_abs ?_; intro R hR
  unfold weirref04_digits.f at hp0
  refine calls_of_runs (fn:=Tryz.f170) (c:=cd170 []) Tryz.func170 (by kernel_rfl) (al:=[.string a0,.int .i64 a1,.int .i64 a2]) rfl (n:=52) rfl ?_
  refine sR 21 td221 ?_
  obtain ⟨v1,hv2,hp3⟩:=bind_some' hp0
  have J9 : ∀ (t4 : Int) (t5 : Bool) (t6 : Int) (he11 : (t4,t5,t6) = v1) (l10 : List Value) (w7 : World) (hS8 : St w0 Z (fs) w7),Runs Tryz.prog (fx 170) td218 (fill (mk 55 [(9,.int .u64 t4),(10,.bool t5),(11,.int .i64 t6)]) l10) w7 R:=by
   intro t4 t5 t6 he11 l10 w7 hS8
   subst he11
   try dsimp only at hp3
   refine sR 9 [.code (cd170 [1,1,1,1,1,1])] ?_
   refine rR (.tuple #[.int .u64 t4,.bool t5,.int .i64 t6]) Tryz.func170 ?_
   cases Option.some.inj hp3
   exact hR _ _ ⟨rfl,hS8⟩
  have L24 : ∀ (t13 : Int) (t14 : Bool) (t15 : Int) (e19 : (Int × Bool × Int)),weirref04_digits.l0 a0 a1 a2 t13 t14 t15 = some e19 → e19 = v1 → ∀ (l18 : List Value) (w16 : World) (hS17 : St w0 Z (fs) w16),Runs Tryz.prog (fx 170) td221 (fill (mk 55 [(0,.string a0),(1,.int .i64 a1),(2,.int .i64 a2),(9,.int .u64 t13),(10,.bool t14),(11,.int .i64 t15)]) l18) w16 R:=by
   refine weirref04_digits.l0.partial_correctness a0 a1 a2 (fun t13 t14 t15 e19 => e19 = v1 → ∀ (l18 : List Value) (w16 : World) (hS17 : St w0 Z (fs) w16),Runs Tryz.prog (fx 170) td221 (fill (mk 55 [(0,.string a0),(1,.int .i64 a1),(2,.int .i64 a2),(9,.int .u64 t13),(10,.bool t14),(11,.int .i64 t15)]) l18) w16 R) ?_
   intro rec23 ih22 t13 t14 t15 e19 hb21 he20 l18 w16 hS17
   refine sI 9 (iR p170_3 6 10::td223) 18 hb21 (fun hp27 => ?_) fun hp61 => ?_
   ·refine sR 5 (iR p170_3 11 5::td223) ?_
    obtain ⟨g28,hp29⟩:=ite_some hp27
    refine rV (.index 9 (.tmp 20) (.tmp 23)) (.int .u8 (byt a0 (IntKind.i64.wrap (a1 + t15)))) (fun o ho _ => x_indexStr (kk:=.i64) (by kernel_rfl) (by kernel_rfl) (by kernel_rfl) g28.1 g28.2 ho) ?_
    refine sR 1 (.inRegion (opsOf p170_3) [13,14,15]::td223) ?_
    obtain ⟨t30,hr31,hp32⟩:=bind_some' hp29
    refine rC (weirref04_digit.ok hr31 hS17) ?_
    rintro _ w33 ⟨rfl,hS34⟩
    refine ⟨_,rfl,?_⟩
    refine sI 1 (.inRegion (opsOf p170_3) [15]::td223) 27 hp32 (fun hp37 => ?_) fun hp60 => ?_
    ·refine sR 11 (iR p170_6 4 5::.code p170_7::td224) ?_
     obtain ⟨g38,hp39⟩:=ite_some hp37
     refine rV (.index 9 (.tmp 29) (.tmp 32)) (.int .u8 (byt a0 (IntKind.i64.wrap (a1 + t15)))) (fun o ho _ => x_indexStr (kk:=.i64) (by kernel_rfl) (by kernel_rfl) (by kernel_rfl) g38.1 g38.2 ho) ?_
     refine sR 1 (.inRegion (opsOf p170_6) [6,7,8]::.code p170_7::td224) ?_
     obtain ⟨t40,hr41,hp42⟩:=bind_some' hp39
     refine rC (weirref04_digit.ok hr41 hS34) ?_
     rintro _ w43 ⟨rfl,hS44⟩
     refine ⟨_,rfl,?_⟩
     refine sR 11 (.inRegion (opsOf p170_8) [5,6]::.code p170_9::td225) ?_
     obtain ⟨g45,hp46⟩:=ite_some hp42
     refine rV (.binOp .quo 191 (.tmp 39) (.tmp 41) 191) (.int .u64 (IntKind.u64.wrap ((IntKind.u64.wrap (18446744073709551615 - (IntKind.u64.wrap t40))).tdiv (IntKind.u64.wrap a2)))) (fun o ho _ => (x_div (by kernel_rfl) (by kernel_rfl) g45).1 ho) ?_
     obtain ⟨v47,hv48,hp49⟩:=bind_some' hp46
     have J53 : ∀ (t50 : Bool) (he55 : t50 = v47) (l54 : List Value) (w51 : World) (hS52 : St w0 Z (fs) w51),Runs Tryz.prog (fx 170) td225 (fill (mk 55 [(0,.string a0),(1,.int .i64 a1),(2,.int .i64 a2),(9,.int .u64 t13),(10,.bool t50),(11,.int .i64 t15),(12,.int .u64 (IntKind.u64.wrap t40))]) l54) w51 R:=by
      intro t50 he55 l54 w51 hS52
      subst he55
      try dsimp only at hp49
      refine sR 16 td220 ?_
      refine sR 1 td221 ?_
      exact rF _ (ih22 (IntKind.u64.wrap ((IntKind.u64.wrap (t13 * (IntKind.u64.wrap a2))) + (IntKind.u64.wrap t40))) t50 (IntKind.i64.wrap (t15 + 1)) _ hp49 he20 _ _ hS52)
     refine sI 1 (.inRegion (opsOf p170_8) []::.code p170_9::td225) 43 hv48 (fun hp58 => ?_) fun hp59 => ?_
     ·refine sR 5 td225 ?_
      exact rF _ (J53 true (Option.some.inj hp58) _ _ hS44)
     refine sR 3 td225 ?_
     exact rF _ (J53 t14 (Option.some.inj hp59) _ _ hS44)
    refine sR 4 td218 ?_
    exact rF _ (J9 t13 t14 t15 ((Option.some.inj hp60).trans he20) _ _ hS34)
   refine sR 13 td218 ?_
   exact rF _ (J9 t13 t14 t15 ((Option.some.inj hp61).trans he20) _ _ hS17)
  exact rF _ (L24 0 false 0 _ hv2 rfl _ _ hS0)

noncomputable def cd148 (p : List Nat) : Code := sub (bodyOf Tryz.f148) p
abbrev p148_2:=cd148 [1,1]
abbrev p148_13:=cd148 [1,1,1,1,1,1,1,0,0]
abbrev p148_16:=cd148 [1,1,1,1,1,1,1,1,0,0]
abbrev p148_20:=cd148 [1,1,1,1,1,1,1,1,1,1]
abbrev p148_22:=cd148 [1,1,1,1,1,1,1,1,0,1,0,1]
abbrev p148_23:=cd148 [1,1,1,1,1,1,1,0,1,0,0]
abbrev p148_24:=cd148 [1,1,1,1,1,1,1,0,1,0,1]
abbrev p148_25:=cd148 [1,1,1,1,1,1,1,0,1,0,1,0]
abbrev p148_26:=cd148 [1,1,1,1,1,1,1,0,1,0,1,1]
abbrev td226:List Item:=[.code (cd148 [1,1,1,1,1])]
abbrev td227:List Item:=.code (cd148 [1,1,1,1,0,1])::td226
abbrev td228:List Item:=.code (cd148 [1,1,1,1,0,0])::td227
abbrev td229:List Item:=[.code (cd148 [1,1,1,1,1,1,1,1])]
abbrev td230:List Item:=.code (cd148 [1,1,1,1,1,1,1,0,1])::td229
abbrev td231:List Item:=[.code (cd148 [1,1,1,1,1,1,1,1,1])]
abbrev td232:List Item:=.code (cd148 [1,1,1,1,1,1,1,1,0,1])::td231
def weirref04_Next.f (a0 : ByteArray) (a1 : Int) : Option (Int × Int × Int) :=
  (if (decide (a1 < 0)) = true then some ((0,0,40)) else (if (decide (a1 > (a0.size : Int))) = true then some ((0,0,40)) else (((if (decide (a1 < (a0.size : Int))) = true then (if 0 ≤ a1 ∧ a1 < (a0.size : Int) then (if ((byt a0 a1) == 45) = true then some (true) else some (false)) else none) else some (false)) : Option Bool) >>= (fun t14 => (((if t14 = true then some (((IntKind.i64.wrap (a1 + 1)),true)) else some ((a1,false))) : Option (Int × Bool)) >>= (fun (t23,t24) => (weirref04_digits.f a0 t23 10 >>= (fun (t30,t31,t32) => (if (t32 == 0) = true then some ((0,0,40)) else (if 0 ≤ t23 ∧ t23 < (a0.size : Int) then (((if ((byt a0 t23) == 48) = true then (if (decide ((IntKind.i64.wrap (t23 + 1)) < (a0.size : Int))) = true then (if 0 ≤ (IntKind.i64.wrap (t23 + 1)) ∧ (IntKind.i64.wrap (t23 + 1)) < (a0.size : Int) then (if ((byt a0 (IntKind.i64.wrap (t23 + 1))) == 120) = true then (weirref04_digits.f a0 (IntKind.i64.wrap (t23 + 2)) 16 >>= (fun (t98,t99,t100) => (if (decide (t100 > 0)) = true then some ((t98,t99,(IntKind.i64.wrap (t100 + 2)))) else some ((t30,t31,t32))))) else (if 0 ≤ (IntKind.i64.wrap (t23 + 1)) ∧ (IntKind.i64.wrap (t23 + 1)) < (a0.size : Int) then (if ((byt a0 (IntKind.i64.wrap (t23 + 1))) == 88) = true then (weirref04_digits.f a0 (IntKind.i64.wrap (t23 + 2)) 16 >>= (fun (t115,t116,t117) => (if (decide (t117 > 0)) = true then some ((t115,t116,(IntKind.i64.wrap (t117 + 2)))) else some ((t30,t31,t32))))) else some ((t30,t31,t32))) else none)) else none) else some ((t30,t31,t32))) else some ((t30,t31,t32))) : Option (Int × Bool × Int)) >>= (fun (t47,t48,t49) => (((if t48 = true then some (.inr ((0,0,41))) else (if t24 = true then (if (decide (t47 > 9223372036854775808)) = true then some (.inr ((0,0,41))) else some (.inl true)) else some (.inl false))) : Option (Sum Bool (Int × Int × Int))) >>= (fun | .inl t58 => (((if t58 = true then some ((IntKind.u64.wrap (0 - t47))) else some (t47)) : Option Int) >>= (fun t68 => some (((IntKind.i64.wrap t68),(IntKind.i64.wrap ((IntKind.i64.wrap (t23 + t49)) - a1)),0)))) | .inr e => some e)))) else none))))))))))
theorem weirref04_Next.ok {a0 : ByteArray} {a1 q0 : Int} {q1 q2 : Int} (hp0 : weirref04_Next.f a0 a1 = some (q0,q1,q2)) (hS0 : St w0 Z (fs) w) :
    Calls Tryz.prog 148 #[.string a0,.int .i64 a1] w (fun e w' => e = .returned (.tuple #[.int .i64 q0,.int .i64 q1,.int .i64 q2]) ∧ St w0 Z (fs) w'):=by
  refine calls_abs ?_; intro R hR
  unfold weirref04_Next.f at hp0
  refine calls_of_runs (fn:=Tryz.f148) (c:=cd148 []) Tryz.func148 (by kernel_rfl) (al:=[.string a0,.int .i64 a1]) rfl (n:=101) rfl ?_
  refine sI 11 [iR (cd148 [1,0,0]) 2 6,.code (cd148 [1,0,1]),.code p148_2] 16 hp0 (fun hp3 => ?_) fun hp5 => ?_
  ·refine sR 14 [.code (cd148 [1,0,1,0,1]),.code p148_2] ?_
   refine rR (.tuple #[.int .i64 0,.int .i64 0,.int .i64 40]) Tryz.func148 ?_
   cases Option.some.inj hp3
   exact hR _ _ ⟨rfl,hS0⟩
  refine sI 5 [.inRegion (opsOf (cd148 [1,0,0])) [7],.code (cd148 [1,0,1]),.code p148_2] 21 hp5 (fun hp8 => ?_) fun hp10 => ?_
  ·refine sR 9 [.code (cd148 [1,0,1,0,1]),.code p148_2] ?_
   refine rR (.tuple #[.int .i64 0,.int .i64 0,.int .i64 40]) Tryz.func148 ?_
   cases Option.some.inj hp8
   exact hR _ _ ⟨rfl,hS0⟩
  obtain ⟨v11,hv12,hp13⟩:=bind_some' hp10
  have J17 : ∀ (t14 : Bool) (he19 : t14 = v11) (l18 : List Value) (w15 : World) (hS16 : St w0 Z (fs) w15),Runs Tryz.prog (fx 148) td228 (fill (mk 103 [(0,.string a0),(1,.int .i64 a1),(7,.int .i64 a1),(8,.bool t14)]) l18) w15 R:=by
   intro t14 he19 l18 w15 hS16
   subst he19
   try dsimp only at hp13
   refine sR 3 td227 ?_
   obtain ⟨v20,hv21,hp22⟩:=bind_some' hp13
   have J27 : ∀ (t23 : Int) (t24 : Bool) (he29 : (t23,t24) = v20) (l28 : List Value) (w25 : World) (hS26 : St w0 Z (fs) w25),Runs Tryz.prog (fx 148) td226 (fill (mk 103 [(0,.string a0),(1,.int .i64 t23),(7,.int .i64 a1),(8,.bool t24)]) l28) w25 R:=by
    intro t23 t24 he29 l28 w25 hS26
    subst he29
    try dsimp only at hp22
    refine sR 4 [iR (cd148 [1,1,1,1,1,0]) 2 8,.code (cd148 [1,1,1,1,1,1])] ?_
    obtain ⟨⟨t30,t31,t32⟩,hr33,hp34⟩:=bind_some' hp22
    try dsimp only at hp34
    refine rC (weirref04_digits.ok hr33 hS26) ?_
    rintro _ w35 ⟨rfl,hS36⟩
    refine ⟨_,rfl,?_⟩
    refine sI 13 [.inRegion (opsOf (cd148 [1,1,1,1,1,1,0,0])) [],.code (cd148 [1,1,1,1,1,1,0,1]),.code (cd148 [1,1,1,1,1,1,1])] 45 hp34 (fun hp39 => ?_) fun hp41 => ?_
    ·refine sR 8 [.code (cd148 [1,1,1,1,1,1,0,1,0,1]),.code (cd148 [1,1,1,1,1,1,1])] ?_
     refine rR (.tuple #[.int .i64 0,.int .i64 0,.int .i64 40]) Tryz.func148 ?_
     cases Option.some.inj hp39
     exact hR _ _ ⟨rfl,hS36⟩
    refine sR 8 (iR p148_13 2 23::td230) ?_
    obtain ⟨g42,hp43⟩:=ite_some hp41
    refine rV (.index 9 (.tmp 46) (.tmp 47)) (.int .u8 (byt a0 t23)) (fun o ho _ => x_indexStr (kk:=.i64) (by kernel_rfl) (by kernel_rfl) (by kernel_rfl) g42.1 g42.2 ho) ?_
    obtain ⟨v44,hv45,hp46⟩:=bind_some' hp43
    have J52 : ∀ (t47 : Int) (t48 : Bool) (t49 : Int) (he54 : (t47,t48,t49) = v44) (l53 : List Value) (w50 : World) (hS51 : St w0 Z (fs) w50),Runs Tryz.prog (fx 148) td229 (fill (mk 103 [(1,.int .i64 t23),(7,.int .i64 a1),(8,.bool t24),(9,.int .u64 t47),(10,.bool t48),(11,.int .i64 t49)]) l53) w50 R:=by
     intro t47 t48 t49 he54 l53 w50 hS51
     subst he54
     try dsimp only at hp46
     refine sR 5 (iR p148_16 2 6::td232) ?_
     obtain ⟨v55,hv56,hp57⟩:=bind_some' hp46
     have hq61 : ∀ x,Sum.inr x = v55 → x = (q0,q1,q2):=by intro x hx; subst hx; simpa using hp57
     have J62 : ∀ (t58 : Bool) (he64 : Sum.inl t58 = v55) (l63 : List Value) (w59 : World) (hS60 : St w0 Z (fs) w59),Runs Tryz.prog (fx 148) td231 (fill (mk 103 [(1,.int .i64 t23),(7,.int .i64 a1),(8,.bool t58),(9,.int .u64 t47),(11,.int .i64 t49)]) l63) w59 R:=by
      intro t58 he64 l63 w59 hS60
      subst he64
      try dsimp only at hp57
      refine sR 5 [.code (cd148 [1,1,1,1,1,1,1,1,1,0,1]),.code p148_20] ?_
      obtain ⟨v65,hv66,hp67⟩:=bind_some' hp57
      have J71 : ∀ (t68 : Int) (he73 : t68 = v65) (l72 : List Value) (w69 : World) (hS70 : St w0 Z (fs) w69),Runs Tryz.prog (fx 148) [.code p148_20] (fill (mk 103 [(1,.int .i64 t23),(7,.int .i64 a1),(9,.int .u64 t68),(11,.int .i64 t49)]) l72) w69 R:=by
       intro t68 he73 l72 w69 hS70
       subst he73
       try dsimp only at hp67
       refine sR 13 [.code (cd148 [1,1,1,1,1,1,1,1,1,1,1])] ?_
       refine rR (.tuple #[.int .i64 (IntKind.i64.wrap t68),.int .i64 (IntKind.i64.wrap ((IntKind.i64.wrap (t23 + t49)) - a1)),.int .i64 0]) Tryz.func148 ?_
       cases Option.some.inj hp67
       exact hR _ _ ⟨rfl,hS70⟩
      cases t58
      ·have hp75:=ite_f hv66 rfl
       refine sR 2 [.code p148_20] ?_
       exact rF _ (J71 t47 (Option.some.inj hp75) _ _ hS60)
      have hp76:=ite_t hv66 rfl
      refine sR 6 [.code p148_20] ?_
      exact rF _ (J71 (IntKind.u64.wrap (0 - t47)) (Option.some.inj hp76) _ _ hS60)
     cases t48
     ·have hp77:=ite_f hv56 rfl
      refine sR 2 (iR p148_16 4 4::td232) ?_
      cases t24
      ·have hp78:=ite_f hp77 rfl
       refine sR 7 td231 ?_
       exact rF _ (J62 false (Option.some.inj hp78) _ _ hS51)
      have hp79:=ite_t hp77 rfl
      refine sI 2 (.inRegion (opsOf p148_16) [6,7]::td232) 90 hp79 (fun hp82 => ?_) fun hp84 => ?_
      ·refine sR 10 (.code p148_22::td231) ?_
       refine rR (.tuple #[.int .i64 0,.int .i64 0,.int .i64 41]) Tryz.func148 ?_
       cases hq61 _ (Option.some.inj hp82)
       exact hR _ _ ⟨rfl,hS51⟩
      refine sR 5 td231 ?_
      exact rF _ (J62 true (Option.some.inj hp84) _ _ hS51)
     have hp85:=ite_t hv56 rfl
     refine sR 14 (.code p148_22::td231) ?_
     refine rR (.tuple #[.int .i64 0,.int .i64 0,.int .i64 41]) Tryz.func148 ?_
     cases hq61 _ (Option.some.inj hp85)
     exact hR _ _ ⟨rfl,hS51⟩
    refine sI 1 (iR p148_13 4 21::td230) 49 hv45 (fun hp89 => ?_) fun hp128 => ?_
    ·refine sI 6 (iR p148_13 10 15::td230) 55 hp89 (fun hp92 => ?_) fun hp127 => ?_
     ·refine sR 5 (iR p148_13 15 10::td230) ?_
      obtain ⟨g93,hp94⟩:=ite_some hp92
      refine rV (.index 9 (.tmp 58) (.tmp 60)) (.int .u8 (byt a0 (IntKind.i64.wrap (t23 + 1)))) (fun o ho _ => x_indexStr (kk:=.i64) (by kernel_rfl) (by kernel_rfl) (by kernel_rfl) g93.1 g93.2 ho) ?_
      refine sI 1 (iR p148_13 17 8::td230) 62 hp94 (fun hp97 => ?_) fun hp109 => ?_
      ·refine sR 15 (iR p148_23 3 8::.code p148_24::td229) ?_
       obtain ⟨⟨t98,t99,t100⟩,hr101,hp102⟩:=bind_some' hp97
       try dsimp only at hp102
       refine rC (weirref04_digits.ok hr101 hS36) ?_
       rintro _ w103 ⟨rfl,hS104⟩
       refine ⟨_,rfl,?_⟩
       refine sI 12 (.inRegion (opsOf p148_25) []::.code p148_26::td229) 80 hp102 (fun hp107 => ?_) fun hp108 => ?_
       ·refine sR 17 td229 ?_
        exact rF _ (J52 t98 t99 (IntKind.i64.wrap (t100 + 2)) (Option.some.inj hp107) _ _ hS104)
       refine sR 3 td229 ?_
       exact rF _ (J52 t30 t31 t32 (Option.some.inj hp108) _ _ hS104)
      refine sR 4 (iR p148_13 21 4::td230) ?_
      obtain ⟨g110,hp111⟩:=ite_some hp109
      refine rV (.index 9 (.tmp 64) (.tmp 66)) (.int .u8 (byt a0 (IntKind.i64.wrap (t23 + 1)))) (fun o ho _ => x_indexStr (kk:=.i64) (by kernel_rfl) (by kernel_rfl) (by kernel_rfl) g110.1 g110.2 ho) ?_
      refine sI 1 (.inRegion (opsOf p148_13) [23,24]::td230) 68 hp111 (fun hp114 => ?_) fun hp126 => ?_
      ·refine sR 9 (iR p148_23 3 8::.code p148_24::td229) ?_
       obtain ⟨⟨t115,t116,t117⟩,hr118,hp119⟩:=bind_some' hp114
       try dsimp only at hp119
       refine rC (weirref04_digits.ok hr118 hS36) ?_
       rintro _ w120 ⟨rfl,hS121⟩
       refine ⟨_,rfl,?_⟩
       refine sI 12 (.inRegion (opsOf p148_25) []::.code p148_26::td229) 80 hp119 (fun hp124 => ?_) fun hp125 => ?_
       ·refine sR 17 td229 ?_
        exact rF _ (J52 t115 t116 (IntKind.i64.wrap (t117 + 2)) (Option.some.inj hp124) _ _ hS121)
       refine sR 3 td229 ?_
       exact rF _ (J52 t30 t31 t32 (Option.some.inj hp125) _ _ hS121)
      refine sR 5 td229 ?_
      exact rF _ (J52 t30 t31 t32 (Option.some.inj hp126) _ _ hS36)
     refine sR 18 td229 ?_
     exact rF _ (J52 t30 t31 t32 (Option.some.inj hp127) _ _ hS36)
    refine sR 24 td229 ?_
    exact rF _ (J52 t30 t31 t32 (Option.some.inj hp128) _ _ hS36)
   cases t14
   ·have hp129:=ite_f hv21 rfl
    refine sR 2 td226 ?_
    exact rF _ (J27 a1 false (Option.some.inj hp129) _ _ hS16)
   have hp130:=ite_t hv21 rfl
   refine sR 6 td226 ?_
   exact rF _ (J27 (IntKind.i64.wrap (a1 + 1)) true (Option.some.inj hp130) _ _ hS16)
  refine sI 15 [iR (cd148 [1,1,1,0]) 4 7,.code (cd148 [1,1,1,1])] 27 hv12 (fun hp133 => ?_) fun hp140 => ?_
  ·refine sR 3 [iR (cd148 [1,1,1,0]) 7 4,.code (cd148 [1,1,1,1])] ?_
   obtain ⟨g134,hp135⟩:=ite_some hp133
   refine rV (.index 9 (.tmp 29) (.tmp 30)) (.int .u8 (byt a0 a1)) (fun o ho _ => x_indexStr (kk:=.i64) (by kernel_rfl) (by kernel_rfl) (by kernel_rfl) g134.1 g134.2 ho) ?_
   refine sI 1 [.inRegion (opsOf (cd148 [1,1,1,0])) [9,10],.code (cd148 [1,1,1,1])] 32 hp135 (fun hp138 => ?_) fun hp139 => ?_
   ·refine sR 5 td228 ?_
    exact rF _ (J17 true (Option.some.inj hp138) _ _ hS0)
   refine sR 5 td228 ?_
   exact rF _ (J17 false (Option.some.inj hp139) _ _ hS0)
  refine sR 10 td228 ?_
  exact rF _ (J17 false (Option.some.inj hp140) _ _ hS0)

noncomputable def cd149 (p : List Nat) : Code := sub (bodyOf Tryz.f149) p
abbrev p149_2:=cd149 [1,1,1]
abbrev p149_5:=cd149 [1,1,1,1,0,0]
abbrev td233:List Item:=[.code (cd149 [1,1,1,1,1])]
abbrev td234:List Item:=.code (cd149 [1,1,1,1,0,1])::td233
abbrev td235:List Item:=[.code (cd149 [1,1,1,1,1,1])]
def weirref04_whole.f (a0 : ByteArray) : Option Int :=
  (if 0 ≤ (0 : Int) ∧ (0 : Int) < (a0.size : Int) then (((if ((byt a0 (0 : Int)) == 45) = true then some (1) else some (0)) : Option Int) >>= (fun t6 => (weirref04_digits.f a0 t6 10 >>= (fun (t12,t13,t14) => (if 0 ≤ t6 ∧ t6 < (a0.size : Int) then (if ((byt a0 t6) == 48) = true then (if (decide ((IntKind.i64.wrap (t6 + 1)) < (a0.size : Int))) = true then (if 0 ≤ (IntKind.i64.wrap (t6 + 1)) ∧ (IntKind.i64.wrap (t6 + 1)) < (a0.size : Int) then (if ((byt a0 (IntKind.i64.wrap (t6 + 1))) == 120) = true then (weirref04_digits.f a0 (IntKind.i64.wrap (t6 + 2)) 16 >>= (fun (t32,t33,t34) => (if (decide (t34 > 0)) = true then some ((IntKind.i64.wrap (t6 + (IntKind.i64.wrap (t34 + 2))))) else some ((IntKind.i64.wrap (t6 + t14)))))) else (if 0 ≤ (IntKind.i64.wrap (t6 + 1)) ∧ (IntKind.i64.wrap (t6 + 1)) < (a0.size : Int) then (if ((byt a0 (IntKind.i64.wrap (t6 + 1))) == 88) = true then (weirref04_digits.f a0 (IntKind.i64.wrap (t6 + 2)) 16 >>= (fun (t51,t52,t53) => (if (decide (t53 > 0)) = true then some ((IntKind.i64.wrap (t6 + (IntKind.i64.wrap (t53 + 2))))) else some ((IntKind.i64.wrap (t6 + t14)))))) else some ((IntKind.i64.wrap (t6 + t14)))) else none)) else none) else some ((IntKind.i64.wrap (t6 + t14)))) else some ((IntKind.i64.wrap (t6 + t14)))) else none))))) else none)
theorem weirref04_whole.ok {a0 : ByteArray} {q0 : Int} (hp0 : weirref04_whole.f a0 = some q0) (hS0 : St w0 Z (fs) w) :
    Calls Tryz.prog 149 #[.string a0] w (fun e w' => e = .returned (.int .i64 q0) ∧ St w0 Z (fs) w'):=by
  refine calls_abs ?_; intro R hR
  unfold weirref04_whole.f at hp0
  refine calls_of_runs (fn:=Tryz.f149) (c:=cd149 []) Tryz.func149 (by kernel_rfl) (al:=[.string a0]) rfl (n:=59) rfl ?_
  refine sR 12 [.inRegion (opsOf (cd149 [1,1,0,0])) [1,2],.code (cd149 [1,1,0,1]),.code p149_2] ?_
  obtain ⟨g1,hp2⟩:=ite_some hp0
  refine rV (.index 9 (.tmp 10) (.const (.int .i64 0))) (.int .u8 (byt a0 (0 : Int))) (fun o ho _ => x_indexStr (kk:=.i64) (by kernel_rfl) (by kernel_rfl) (by kernel_rfl) g1.1 g1.2 ho) ?_
  obtain ⟨v3,hv4,hp5⟩:=bind_some' hp2
  have J9 : ∀ (t6 : Int) (he11 : t6 = v3) (l10 : List Value) (w7 : World) (hS8 : St w0 Z (fs) w7),Runs Tryz.prog (fx 149) [.code p149_2] (fill (mk 60 [(0,.string a0),(3,.int .i64 t6)]) l10) w7 R:=by
   intro t6 he11 l10 w7 hS8
   subst he11
   try dsimp only at hp5
   refine sR 4 [iR (cd149 [1,1,1,0]) 2 8,.code (cd149 [1,1,1,1])] ?_
   obtain ⟨⟨t12,t13,t14⟩,hr15,hp16⟩:=bind_some' hp5
   try dsimp only at hp16
   refine rC (weirref04_digits.ok hr15 hS8) ?_
   rintro _ w17 ⟨rfl,hS18⟩
   refine ⟨_,rfl,?_⟩
   refine sR 13 (iR p149_5 2 23::td234) ?_
   obtain ⟨g19,hp20⟩:=ite_some hp16
   refine rV (.index 9 (.tmp 20) (.tmp 21)) (.int .u8 (byt a0 t6)) (fun o ho _ => x_indexStr (kk:=.i64) (by kernel_rfl) (by kernel_rfl) (by kernel_rfl) g19.1 g19.2 ho) ?_
   refine sI 1 (iR p149_5 4 21::td234) 23 hp20 (fun hp23 => ?_) fun hp68 => ?_
   ·refine sI 6 (iR p149_5 10 15::td234) 29 hp23 (fun hp26 => ?_) fun hp66 => ?_
    ·refine sR 5 (iR p149_5 15 10::td234) ?_
     obtain ⟨g27,hp28⟩:=ite_some hp26
     refine rV (.index 9 (.tmp 32) (.tmp 34)) (.int .u8 (byt a0 (IntKind.i64.wrap (t6 + 1)))) (fun o ho _ => x_indexStr (kk:=.i64) (by kernel_rfl) (by kernel_rfl) (by kernel_rfl) g27.1 g27.2 ho) ?_
     refine sI 1 (iR p149_5 17 8::td234) 36 hp28 (fun hp31 => ?_) fun hp45 => ?_
     ·refine sR 15 (iR (cd149 [1,1,1,1,0,1,0,0]) 3 8::.code (cd149 [1,1,1,1,0,1,0,1])::td233) ?_
      obtain ⟨⟨t32,t33,t34⟩,hr35,hp36⟩:=bind_some' hp31
      try dsimp only at hp36
      refine rC (weirref04_digits.ok hr35 hS18) ?_
      rintro _ w37 ⟨rfl,hS38⟩
      refine ⟨_,rfl,?_⟩
      refine sI 12 (.inRegion (opsOf (cd149 [1,1,1,1,0,1,0,1,0])) []::.code (cd149 [1,1,1,1,0,1,0,1,1])::td233) 54 hp36 (fun hp41 => ?_) fun hp43 => ?_
      ·refine sR 14 td235 ?_
       refine rR (.int .i64 (IntKind.i64.wrap (t6 + (IntKind.i64.wrap (t34 + 2))))) Tryz.func149 ?_
       cases Option.some.inj hp41
       exact hR _ _ ⟨rfl,hS38⟩
      refine sR 10 td235 ?_
      refine rR (.int .i64 (IntKind.i64.wrap (t6 + t14))) Tryz.func149 ?_
      cases Option.some.inj hp43
      exact hR _ _ ⟨rfl,hS38⟩
     refine sR 4 (iR p149_5 21 4::td234) ?_
     obtain ⟨g46,hp47⟩:=ite_some hp45
     refine rV (.index 9 (.tmp 38) (.tmp 40)) (.int .u8 (byt a0 (IntKind.i64.wrap (t6 + 1)))) (fun o ho _ => x_indexStr (kk:=.i64) (by kernel_rfl) (by kernel_rfl) (by kernel_rfl) g46.1 g46.2 ho) ?_
     refine sI 1 (.inRegion (opsOf p149_5) [23,24]::td234) 42 hp47 (fun hp50 => ?_) fun hp64 => ?_
     ·refine sR 9 (iR (cd149 [1,1,1,1,0,1,0,0]) 3 8::.code (cd149 [1,1,1,1,0,1,0,1])::td233) ?_
      obtain ⟨⟨t51,t52,t53⟩,hr54,hp55⟩:=bind_some' hp50
      try dsimp only at hp55
      refine rC (weirref04_digits.ok hr54 hS18) ?_
      rintro _ w56 ⟨rfl,hS57⟩
      refine ⟨_,rfl,?_⟩
      refine sI 12 (.inRegion (opsOf (cd149 [1,1,1,1,0,1,0,1,0])) []::.code (cd149 [1,1,1,1,0,1,0,1,1])::td233) 54 hp55 (fun hp60 => ?_) fun hp62 => ?_
      ·refine sR 14 td235 ?_
       refine rR (.int .i64 (IntKind.i64.wrap (t6 + (IntKind.i64.wrap (t53 + 2))))) Tryz.func149 ?_
       cases Option.some.inj hp60
       exact hR _ _ ⟨rfl,hS57⟩
      refine sR 10 td235 ?_
      refine rR (.int .i64 (IntKind.i64.wrap (t6 + t14))) Tryz.func149 ?_
      cases Option.some.inj hp62
      exact hR _ _ ⟨rfl,hS57⟩
     refine sR 12 td235 ?_
     refine rR (.int .i64 (IntKind.i64.wrap (t6 + t14))) Tryz.func149 ?_
     cases Option.some.inj hp64
     exact hR _ _ ⟨rfl,hS18⟩
    refine sR 25 td235 ?_
    refine rR (.int .i64 (IntKind.i64.wrap (t6 + t14))) Tryz.func149 ?_
    cases Option.some.inj hp66
    exact hR _ _ ⟨rfl,hS18⟩
   refine sR 31 td235 ?_
   refine rR (.int .i64 (IntKind.i64.wrap (t6 + t14))) Tryz.func149 ?_
   cases Option.some.inj hp68
   exact hR _ _ ⟨rfl,hS18⟩
  refine sI 1 [.inRegion (opsOf (cd149 [1,1,0,0])) [],.code (cd149 [1,1,0,1]),.code p149_2] 12 hv4 (fun hp72 => ?_) fun hp73 => ?_
  ·refine sR 5 [.code p149_2] ?_
   exact rF _ (J9 1 (Option.some.inj hp72) _ _ hS0)
  refine sR 3 [.code p149_2] ?_
  exact rF _ (J9 0 (Option.some.inj hp73) _ _ hS0)

noncomputable def cd118 (p : List Nat) : Code := sub (bodyOf Tryz.f118) p
abbrev p118_2:=cd118 [1,1,1]
abbrev p118_5:=cd118 [1,1,1,1]
def weirref04_Parse.f (a0 : ByteArray) : Option (Int × Int) :=
  (weirref04_Next.f a0 0 >>= (fun (t1,t2,t3) => (((if (t3 == 41) = true then (weirref04_whole.f a0 >>= (fun t31 => some (t31))) else some (t2)) : Option Int) >>= (fun t11 => (if (t3 == 40) = true then some ((0,40)) else (if (t11 != (a0.size : Int)) = true then some ((0,40)) else some ((t1,t3))))))))
theorem weirref04_Parse.ok {a0 : ByteArray} {q0 q1 : Int} (hp0 : weirref04_Parse.f a0 = some (q0,q1)) (hS0 : St w0 Z (fs) w) :
    Calls Tryz.prog 118 #[.string a0] w (fun e w' => e = .returned (.tuple #[.int .i64 q0,.int .i64 q1]) ∧ St w0 Z (fs) w'):=by
  refine calls_abs ?_; intro R hR
  unfold weirref04_Parse.f at hp0
  refine calls_of_runs (fn:=Tryz.f118) (c:=cd118 []) Tryz.func118 (by kernel_rfl) (al:=[.string a0]) rfl (n:=26) rfl ?_
  refine sR 8 [iR (cd118 [1,0]) 1 8,.code (cd118 [1,1])] ?_
  obtain ⟨⟨t1,t2,t3⟩,hr4,hp5⟩:=bind_some' hp0
  try dsimp only at hp5
  refine rC (weirref04_Next.ok hr4 hS0) ?_
  rintro _ w6 ⟨rfl,hS7⟩
  refine ⟨_,rfl,?_⟩
  obtain ⟨v8,hv9,hp10⟩:=bind_some' hp5
  have J14 : ∀ (t11 : Int) (he16 : t11 = v8) (l15 : List Value) (w12 : World) (hS13 : St w0 Z (fs) w12),Runs Tryz.prog (fx 118) [.code p118_2] (fill (mk 27 [(0,.string a0),(4,.int .i64 t1),(5,.int .i64 t11),(6,.int .i64 t3)]) l15) w12 R:=by
   intro t11 he16 l15 w12 hS13
   subst he16
   try dsimp only at hp10
   refine sI 5 [iR (cd118 [1,1,1,0,0]) 2 6,.code (cd118 [1,1,1,0,1]),.code p118_5] 18 hp10 (fun hp19 => ?_) fun hp21 => ?_
   ·refine sR 13 [.code (cd118 [1,1,1,0,1,0,1]),.code p118_5] ?_
    refine rR (.tuple #[.int .i64 0,.int .i64 40]) Tryz.func118 ?_
    cases Option.some.inj hp19
    exact hR _ _ ⟨rfl,hS13⟩
   refine sI 5 [.inRegion (opsOf (cd118 [1,1,1,0,0])) [7],.code (cd118 [1,1,1,0,1]),.code p118_5] 23 hp21 (fun hp24 => ?_) fun hp26 => ?_
   ·refine sR 8 [.code (cd118 [1,1,1,0,1,0,1]),.code p118_5] ?_
    refine rR (.tuple #[.int .i64 0,.int .i64 40]) Tryz.func118 ?_
    cases Option.some.inj hp24
    exact hR _ _ ⟨rfl,hS13⟩
   refine sR 11 [.code (cd118 [1,1,1,1,1])] ?_
   refine rR (.tuple #[.int .i64 t1,.int .i64 t3]) Tryz.func118 ?_
   cases Option.some.inj hp26
   exact hR _ _ ⟨rfl,hS13⟩
  refine sI 13 [.inRegion (opsOf (cd118 [1,1,0,0])) [],.code (cd118 [1,1,0,1]),.code p118_2] 14 hv9 (fun hp30 => ?_) fun hp36 => ?_
  ·refine sR 4 [.inRegion (opsOf (cd118 [1,1,0,1,0])) [1,2],.code p118_2] ?_
   obtain ⟨t31,hr32,hp33⟩:=bind_some' hp30
   refine rC (weirref04_whole.ok hr32 hS7) ?_
   rintro _ w34 ⟨rfl,hS35⟩
   refine ⟨_,rfl,?_⟩
   refine sR 2 [.code p118_2] ?_
   exact rF _ (J14 t31 (Option.some.inj hp33) _ _ hS35)
  refine sR 3 [.code p118_2] ?_
  exact rF _ (J14 t2 (Option.some.inj hp36) _ _ hS7)

noncomputable def cd116 (p : List Nat) : Code := sub (bodyOf Tryz.f116) p
abbrev p116_12:=cd116 [1,1,1,0,0,0,1,0,1,0]
abbrev p116_14:=cd116 [1,1,1,0,0,0,1,0,1,1,0,0]
abbrev p116_20:=cd116 [1,1,1,0,0,0,1,0,1,1,0,1,0]
abbrev td236:List Item:=[.code (cd116 [1,0,1]),.code (cd116 [1,1])]
abbrev td237:List Item:=[.code (cd116 [1,1,1,1])]
abbrev td238:List Item:=.inBlock 0::td237
abbrev td239:List Item:=.inLoop (cd116 [1,1,1,0,0,0])::td238
abbrev td240:List Item:=.code (cd116 [1,1,1,0,0,0])::td239
abbrev td241:List Item:=.inBlock 1::td239
abbrev td242:List Item:=.code (cd116 [1,1,1,0,0,0,1,0,1,1])::td241
abbrev td243:List Item:=.code (cd116 [1,1,1,0,0,0,1,0,1,1,1])::td241
abbrev td244:List Item:=.code (cd116 [1,1,1,0,0,0,1,0,1,1,0,1])::td243
abbrev td245:List Item:=.code p116_14::td244
def weirref05_name.l0 (a0 : ByteArray) (a1 t28 : Int) : Option Int :=
  (if (decide ((IntKind.i64.wrap (a1 + t28)) < (a0.size : Int))) = true then (if 0 ≤ (IntKind.i64.wrap (a1 + t28)) ∧ (IntKind.i64.wrap (a1 + t28)) < (a0.size : Int) then (weirref05_letter.f (byt a0 (IntKind.i64.wrap (a1 + t28))) >>= (fun t43 => (((if t43 = true then some (true) else (weirref05_digit.f (byt a0 (IntKind.i64.wrap (a1 + t28))) >>= (fun t119 => (if t119 = true then some (true) else (if ((byt a0 (IntKind.i64.wrap (a1 + t28))) == 46) = true then some (true) else some (false)))))) : Option Bool) >>= (fun t51 => (((if ((byt a0 (IntKind.i64.wrap (a1 + t28))) == 43) = true then (if (decide ((IntKind.i64.wrap ((IntKind.i64.wrap (a1 + t28)) + 1)) < (a0.size : Int))) = true then (if 0 ≤ (IntKind.i64.wrap ((IntKind.i64.wrap (a1 + t28)) + 1)) ∧ (IntKind.i64.wrap ((IntKind.i64.wrap (a1 + t28)) + 1)) < (a0.size : Int) then (weirref05_letter.f (byt a0 (IntKind.i64.wrap ((IntKind.i64.wrap (a1 + t28)) + 1))) >>= (fun t78 => (if t78 = true then some (true) else (if 0 ≤ (IntKind.i64.wrap ((IntKind.i64.wrap (a1 + t28)) + 1)) ∧ (IntKind.i64.wrap ((IntKind.i64.wrap (a1 + t28)) + 1)) < (a0.size : Int) then (weirref05_digit.f (byt a0 (IntKind.i64.wrap ((IntKind.i64.wrap (a1 + t28)) + 1))) >>= (fun t86 => some (t86))) else none)))) else none) else some (t51)) else (if ((byt a0 (IntKind.i64.wrap (a1 + t28))) == 45) = true then (if (decide ((IntKind.i64.wrap ((IntKind.i64.wrap (a1 + t28)) + 1)) < (a0.size : Int))) = true then (if 0 ≤ (IntKind.i64.wrap ((IntKind.i64.wrap (a1 + t28)) + 1)) ∧ (IntKind.i64.wrap ((IntKind.i64.wrap (a1 + t28)) + 1)) < (a0.size : Int) then (weirref05_letter.f (byt a0 (IntKind.i64.wrap ((IntKind.i64.wrap (a1 + t28)) + 1))) >>= (fun t102 => (if t102 = true then some (true) else (if 0 ≤ (IntKind.i64.wrap ((IntKind.i64.wrap (a1 + t28)) + 1)) ∧ (IntKind.i64.wrap ((IntKind.i64.wrap (a1 + t28)) + 1)) < (a0.size : Int) then (weirref05_digit.f (byt a0 (IntKind.i64.wrap ((IntKind.i64.wrap (a1 + t28)) + 1))) >>= (fun t110 => some (t110))) else none)))) else none) else some (t51)) else some (t51))) : Option Bool) >>= (fun t60 => (if (!t60) = true then some (t28) else (weirref05_name.l0 a0 a1 (IntKind.i64.wrap (t28 + 1)))))))))) else none) else some (t28))
 partial_fixpoint
def weirref05_name.f (a0 : ByteArray) (a1 : Int) : Option Int :=
  (if (decide (a1 ≥ (a0.size : Int))) = true then some (0) else (if 0 ≤ a1 ∧ a1 < (a0.size : Int) then (weirref05_letter.f (byt a0 a1) >>= (fun t8 => (if (!t8) = true then some (0) else (weirref05_name.l0 a0 a1 1 >>= (fun t21 => some (t21)))))) else none))
theorem weirref05_name.ok {a0 : ByteArray} {a1 q0 : Int} (hp0 : weirref05_name.f a0 a1 = some q0) (hS0 : St w0 Z (fs) w) :
    Calls Tryz.prog 116 #[.string a0,.int .i64 a1] w (fun e w' => e = .returned (.int .i64 q0) ∧ St w0 Z (fs) w'):=by
  refine calls_abs ?_; intro R hR
  unfold weirref05_name.f at hp0
  refine calls_of_runs (fn:=Tryz.f116) (c:=cd116 []) Tryz.func116 (by kernel_rfl) (al:=[.string a0,.int .i64 a1]) rfl (n:=74) rfl ?_
  refine sI 11 (iR (cd116 [1,0,0]) 4 7::td236) 11 hp0 (fun hp3 => ?_) fun hp5 => ?_
  ·refine sR 13 [.code (cd116 [1,0,1,0,1]),.code (cd116 [1,1])] ?_
   refine rR (.int .i64 0) Tryz.func116 ?_
   cases Option.some.inj hp3
   exact hR _ _ ⟨rfl,hS0⟩
  refine sR 3 (iR (cd116 [1,0,0]) 7 4::td236) ?_
  obtain ⟨g6,hp7⟩:=ite_some hp5
  refine rV (.index 9 (.tmp 13) (.tmp 14)) (.int .u8 (byt a0 a1)) (fun o ho _ => x_indexStr (kk:=.i64) (by kernel_rfl) (by kernel_rfl) (by kernel_rfl) g6.1 g6.2 ho) ?_
  obtain ⟨t8,hr9,hp10⟩:=bind_some' hp7
  refine rC (weirref05_letter.ok hr9 hS0) ?_
  rintro _ w11 ⟨rfl,hS12⟩
  refine ⟨_,rfl,?_⟩
  refine sI 1 (.inRegion (opsOf (cd116 [1,0,0])) [10]::td236) 17 hp10 (fun hp15 => ?_) fun hp17 => ?_
  ·refine sR 7 [.code (cd116 [1,0,1,0,1]),.code (cd116 [1,1])] ?_
   refine rR (.int .i64 0) Tryz.func116 ?_
   cases Option.some.inj hp15
   exact hR _ _ ⟨rfl,hS12⟩
  refine sR 11 td240 ?_
  obtain ⟨v18,hv19,hp20⟩:=bind_some' hp17
  have J24 : ∀ (t21 : Int) (he26 : t21 = v18) (l25 : List Value) (w22 : World) (hS23 : St w0 Z (fs) w22),Runs Tryz.prog (fx 116) td237 (fill (mk 76 [(5,.int .i64 t21)]) l25) w22 R:=by
   intro t21 he26 l25 w22 hS23
   subst he26
   try dsimp only at hp20
   refine sR 5 [.code (cd116 [1,1,1,1,1])] ?_
   refine rR (.int .i64 t21) Tryz.func116 ?_
   cases Option.some.inj hp20
   exact hR _ _ ⟨rfl,hS23⟩
  have L37 : ∀ (t28 e32 : Int),weirref05_name.l0 a0 a1 t28 = some e32 → e32 = v18 → ∀ (l31 : List Value) (w29 : World) (hS30 : St w0 Z (fs) w29),Runs Tryz.prog (fx 116) td240 (fill (mk 76 [(0,.string a0),(1,.int .i64 a1),(5,.int .i64 t28)]) l31) w29 R:=by
   refine weirref05_name.l0.partial_correctness a0 a1 (fun t28 e32 => e32 = v18 → ∀ (l31 : List Value) (w29 : World) (hS30 : St w0 Z (fs) w29),Runs Tryz.prog (fx 116) td240 (fill (mk 76 [(0,.string a0),(1,.int .i64 a1),(5,.int .i64 t28)]) l31) w29 R) ?_
   intro rec36 ih35 t28 e32 hb34 he33 l31 w29 hS30
   refine sI 9 (.inRegion (opsOf (cd116 [1,1,1,0,0,0,0,0])) []::.code (cd116 [1,1,1,0,0,0,0,1])::.code (cd116 [1,1,1,0,0,0,1])::td239) 24 hb34 (fun hp40 => ?_) fun hp131 => ?_
   ·refine sR 10 (.inRegion (opsOf (cd116 [1,1,1,0,0,0,1,0,0])) [4,5]::.code (cd116 [1,1,1,0,0,0,1,0,1])::td241) ?_
    obtain ⟨g41,hp42⟩:=ite_some hp40
    refine rV (.index 9 (.tmp 25) (.tmp 28)) (.int .u8 (byt a0 (IntKind.i64.wrap (a1 + t28)))) (fun o ho _ => x_indexStr (kk:=.i64) (by kernel_rfl) (by kernel_rfl) (by kernel_rfl) g41.1 g41.2 ho) ?_
    refine sR 5 (iR p116_12 1 10::td242) ?_
    obtain ⟨t43,hr44,hp45⟩:=bind_some' hp42
    refine rC (weirref05_letter.ok hr44 hS30) ?_
    rintro _ w46 ⟨rfl,hS47⟩
    refine ⟨_,rfl,?_⟩
    refine sR 1 (iR p116_12 3 8::td242) ?_
    obtain ⟨v48,hv49,hp50⟩:=bind_some' hp45
    have J54 : ∀ (t51 : Bool) (he56 : t51 = v48) (l55 : List Value) (w52 : World) (hS53 : St w0 Z (fs) w52),Runs Tryz.prog (fx 116) td245 (fill (mk 76 [(0,.string a0),(1,.int .i64 a1),(5,.int .i64 t28),(6,.int .u8 (byt a0 (IntKind.i64.wrap (a1 + t28)))),(7,.bool t51)]) l55) w52 R:=by
     intro t51 he56 l55 w52 hS53
     subst he56
     try dsimp only at hp50
     obtain ⟨v57,hv58,hp59⟩:=bind_some' hp50
     have J63 : ∀ (t60 : Bool) (he65 : t60 = v57) (l64 : List Value) (w61 : World) (hS62 : St w0 Z (fs) w61),Runs Tryz.prog (fx 116) td243 (fill (mk 76 [(0,.string a0),(1,.int .i64 a1),(5,.int .i64 t28),(7,.bool t60)]) l64) w61 R:=by
      intro t60 he65 l64 w61 hS62
      subst he65
      try dsimp only at hp59
      refine sI 5 (.inRegion (opsOf (cd116 [1,1,1,0,0,0,1,0,1,1,1,0,0])) []::.code (cd116 [1,1,1,0,0,0,1,0,1,1,1,0,1])::.code (cd116 [1,1,1,0,0,0,1,0,1,1,1,1])::td241) 72 hp59 (fun hp68 => ?_) fun hp69 => ?_
      ·refine sR 3 td237 ?_
       exact rF _ (J24 t28 ((Option.some.inj hp68).trans he33) _ _ hS62)
      refine sR 9 td239 ?_
      refine sR 1 td240 ?_
      exact rF _ (ih35 (IntKind.i64.wrap (t28 + 1)) _ hp69 he33 _ _ hS62)
     refine sI 3 (iR p116_14 2 13::td244) 41 hv58 (fun hp72 => ?_) fun hp93 => ?_
     ·refine sI 12 (.inRegion (opsOf p116_14) [14]::td244) 53 hp72 (fun hp75 => ?_) fun hp92 => ?_
      ·refine sR 9 (iR p116_20 5 12::td243) ?_
       obtain ⟨g76,hp77⟩:=ite_some hp75
       refine rV (.index 9 (.tmp 55) (.tmp 59)) (.int .u8 (byt a0 (IntKind.i64.wrap ((IntKind.i64.wrap (a1 + t28)) + 1)))) (fun o ho _ => x_indexStr (kk:=.i64) (by kernel_rfl) (by kernel_rfl) (by kernel_rfl) g76.1 g76.2 ho) ?_
       obtain ⟨t78,hr79,hp80⟩:=bind_some' hp77
       refine rC (weirref05_letter.ok hr79 hS53) ?_
       rintro _ w81 ⟨rfl,hS82⟩
       refine ⟨_,rfl,?_⟩
       refine sR 1 (iR p116_20 8 9::td243) ?_
       cases t78
       ·have hp83:=ite_f hp80 rfl
        refine sR 5 (iR p116_20 13 4::td243) ?_
        obtain ⟨g84,hp85⟩:=ite_some hp83
        refine rV (.index 9 (.tmp 63) (.tmp 67)) (.int .u8 (byt a0 (IntKind.i64.wrap ((IntKind.i64.wrap (a1 + t28)) + 1)))) (fun o ho _ => x_indexStr (kk:=.i64) (by kernel_rfl) (by kernel_rfl) (by kernel_rfl) g84.1 g84.2 ho) ?_
        obtain ⟨t86,hr87,hp88⟩:=bind_some' hp85
        refine rC (weirref05_digit.ok hr87 hS82) ?_
        rintro _ w89 ⟨rfl,hS90⟩
        refine ⟨_,rfl,?_⟩
        refine sR 3 td243 ?_
        exact rF _ (J63 t86 (Option.some.inj hp88) _ _ hS90)
       have hp91:=ite_t hp80 rfl
       refine sR 10 td243 ?_
       exact rF _ (J63 true (Option.some.inj hp91) _ _ hS82)
      refine sR 4 td243 ?_
      exact rF _ (J63 t51 (Option.some.inj hp92) _ _ hS53)
     refine sI 3 (iR p116_14 5 10::td244) 44 hp93 (fun hp96 => ?_) fun hp117 => ?_
     ·refine sI 9 (.inRegion (opsOf p116_14) [14]::td244) 53 hp96 (fun hp99 => ?_) fun hp116 => ?_
      ·refine sR 9 (iR p116_20 5 12::td243) ?_
       obtain ⟨g100,hp101⟩:=ite_some hp99
       refine rV (.index 9 (.tmp 55) (.tmp 59)) (.int .u8 (byt a0 (IntKind.i64.wrap ((IntKind.i64.wrap (a1 + t28)) + 1)))) (fun o ho _ => x_indexStr (kk:=.i64) (by kernel_rfl) (by kernel_rfl) (by kernel_rfl) g100.1 g100.2 ho) ?_
       obtain ⟨t102,hr103,hp104⟩:=bind_some' hp101
       refine rC (weirref05_letter.ok hr103 hS53) ?_
       rintro _ w105 ⟨rfl,hS106⟩
       refine ⟨_,rfl,?_⟩
       refine sR 1 (iR p116_20 8 9::td243) ?_
       cases t102
       ·have hp107:=ite_f hp104 rfl
        refine sR 5 (iR p116_20 13 4::td243) ?_
        obtain ⟨g108,hp109⟩:=ite_some hp107
        refine rV (.index 9 (.tmp 63) (.tmp 67)) (.int .u8 (byt a0 (IntKind.i64.wrap ((IntKind.i64.wrap (a1 + t28)) + 1)))) (fun o ho _ => x_indexStr (kk:=.i64) (by kernel_rfl) (by kernel_rfl) (by kernel_rfl) g108.1 g108.2 ho) ?_
        obtain ⟨t110,hr111,hp112⟩:=bind_some' hp109
        refine rC (weirref05_digit.ok hr111 hS106) ?_
        rintro _ w113 ⟨rfl,hS114⟩
        refine ⟨_,rfl,?_⟩
        refine sR 3 td243 ?_
        exact rF _ (J63 t110 (Option.some.inj hp112) _ _ hS114)
       have hp115:=ite_t hp104 rfl
       refine sR 10 td243 ?_
       exact rF _ (J63 true (Option.some.inj hp115) _ _ hS106)
      refine sR 4 td243 ?_
      exact rF _ (J63 t51 (Option.some.inj hp116) _ _ hS53)
     refine sR 13 td243 ?_
     exact rF _ (J63 t51 (Option.some.inj hp117) _ _ hS53)
    cases t43
    ·have hp118:=ite_f hv49 rfl
     refine sR 1 (iR p116_12 4 7::td242) ?_
     obtain ⟨t119,hr120,hp121⟩:=bind_some' hp118
     refine rC (weirref05_digit.ok hr120 hS47) ?_
     rintro _ w122 ⟨rfl,hS123⟩
     refine ⟨_,rfl,?_⟩
     refine sR 2 (iR p116_12 7 4::td242) ?_
     cases t119
     ·have hp124:=ite_f hp121 rfl
      refine sI 2 (.inRegion (opsOf p116_12) [9,10]::td242) 38 hp124 (fun hp127 => ?_) fun hp128 => ?_
      ·refine sR 5 td245 ?_
       exact rF _ (J54 true (Option.some.inj hp127) _ _ hS123)
      refine sR 5 td245 ?_
      exact rF _ (J54 false (Option.some.inj hp128) _ _ hS123)
     have hp129:=ite_t hp121 rfl
     refine sR 7 td245 ?_
     exact rF _ (J54 true (Option.some.inj hp129) _ _ hS123)
    have hp130:=ite_t hv49 rfl
    refine sR 11 td245 ?_
    exact rF _ (J54 true (Option.some.inj hp130) _ _ hS47)
   refine sR 3 td237 ?_
   exact rF _ (J24 t28 ((Option.some.inj hp131).trans he33) _ _ hS30)
  exact rF _ (L37 1 _ hv19 rfl _ _ hS12)

noncomputable def cd76 (p : List Nat) : Code := sub (bodyOf Tryz.f76) p
abbrev p76_9:=cd76 [1,1,0,0,1,1,0]
abbrev p76_11:=cd76 [1,1,0,0,1,1,1,1,0]
abbrev p76_13:=cd76 [1,1,0,0,1,1,1,1,1,0,1,0,0,0]
abbrev p76_15:=cd76 [1,1,0,0,1,1,1,1,1,0,1,1,0,0]
abbrev p76_19:=cd76 [1,1,0,0,1,1,1,1,1,0,1,1,0,1,0,1]
abbrev p76_20:=cd76 [1,1,0,0,1,1,1,1,1,0,1,0,0,0,0,0]
abbrev p76_27:=cd76 [1,1,0,0,1,1,1,1,1,1,1,1]
abbrev p76_29:=cd76 [1,1,0,0,1,1,1,1,1,1,1,0,1,0,1]
abbrev p76_30:=cd76 [1,1,0,0,1,1,1,0,1,0,0,0]
abbrev p76_32:=cd76 [1,1,0,0,1,1,1,0,1,1,0]
abbrev p76_33:=cd76 [1,1,0,0,1,1,1,0,1,1,1]
abbrev p76_34:=cd76 [1,1,0,0,1,1,1,0,1,1,1,0,0]
abbrev p76_35:=cd76 [1,1,0,0,1,1,1,0,1,1,1,0,1]
abbrev p76_37:=cd76 [1,1,0,0,1,1,1,0,1,1,1,0,1,0,0]
abbrev p76_38:=cd76 [1,1,0,0,1,1,1,0,1,1,1,0,1,0,1]
abbrev p76_40:=cd76 [1,1,0,0,1,1,1,0,1,0,0,0,0,0]
abbrev p76_48:=cd76 [1,1,0,0,1,0,1,0,1,0,1]
abbrev td246:List Item:=[.code (cd76 [1,1,1])]
abbrev td247:List Item:=.inBlock 0::td246
abbrev td248:List Item:=.code (cd76 [1,1,0,0,1,1,1])::td247
abbrev td249:List Item:=.code (cd76 [1,1,0,0,1,1,1,1,1])::td247
abbrev td250:List Item:=.inRegion (opsOf p76_11) [2,3,4]::td249
abbrev td251:List Item:=.inRegion (opsOf p76_11) [4]::td249
abbrev td252:List Item:=.code (cd76 [1,1,0,0,1,1,1,1,1,0,1,1])::td247
abbrev td253:List Item:=.inBlock 3::td252
abbrev td254:List Item:=.inLoop p76_13::td253
abbrev td255:List Item:=.code p76_13::td254
abbrev td256:List Item:=.code (cd76 [1,1,0,0,1,1,1,1,1,0,1,1,1])::td247
abbrev td257:List Item:=.code (cd76 [1,1,0,0,1,1,1,1,1,0,1,1,0,1])::td256
abbrev td258:List Item:=iR p76_15 4 6::td257
abbrev td259:List Item:=.code p76_19::td256
abbrev td260:List Item:=.inRegion (opsOf (cd76 [1,1,0,0,1,1,1,1,1,0,1,1,0,1,0,0])) [2,3,4]::td259
abbrev td261:List Item:=.inRegion (opsOf p76_15) [7,8,9]::td257
abbrev td262:List Item:=.inRegion (opsOf p76_15) [9]::td257
abbrev td263:List Item:=.code (cd76 [1,1,0,0,1,1,1,1,1,0,1,0,0,0,1])::td254
abbrev td264:List Item:=.code (cd76 [1,1,0,0,1,1,1,1,1,0,1,0,0,0,0,1])::td263
abbrev td265:List Item:=iR p76_20 4 12::td264
abbrev td266:List Item:=iR p76_20 7 9::td264
abbrev td267:List Item:=iR p76_20 9 7::td264
abbrev td268:List Item:=.inRegion (opsOf p76_20) [13,14,15]::td264
abbrev td269:List Item:=.inRegion (opsOf p76_20) [15]::td264
abbrev td270:List Item:=.code (cd76 [1,1,0,0,1,1,1,1,1,1,1])::td247
abbrev td271:List Item:=.inRegion (opsOf (cd76 [1,1,0,0,1,1,1,1,1,1,0])) [2,3]::td270
abbrev td272:List Item:=.code p76_27::td247
abbrev td273:List Item:=.code (cd76 [1,1,0,0,1,1,1,1,1,1,1,0,1])::td272
abbrev td274:List Item:=.inRegion (opsOf (cd76 [1,1,0,0,1,1,1,1,1,1,1,0,0])) []::td273
abbrev td275:List Item:=.code p76_29::td272
abbrev td276:List Item:=.inRegion (opsOf (cd76 [1,1,0,0,1,1,1,1,1,1,1,0,1,0,0])) [2,3,4]::td275
abbrev td277:List Item:=iR p76_27 6 5::td247
abbrev td278:List Item:=.inRegion (opsOf p76_27) [8,9,10]::td247
abbrev td279:List Item:=.inRegion (opsOf p76_27) [10]::td247
abbrev td280:List Item:=.code (cd76 [1,1,0,0,1,1,1,0,1,1])::td247
abbrev td281:List Item:=.inBlock 1::td280
abbrev td282:List Item:=.inLoop p76_30::td281
abbrev td283:List Item:=.code p76_30::td282
abbrev td284:List Item:=.code (cd76 [1,1,0,0,1,1,1,0,1,1,1,1])::td247
abbrev td285:List Item:=.code p76_38::td284
abbrev td286:List Item:=.code (cd76 [1,1,0,0,1,1,1,0,1,0,0,0,1])::td282
abbrev td287:List Item:=.code (cd76 [1,1,0,0,1,1,1,0,1,0,0,0,0,1])::td286
abbrev td288:List Item:=.code (cd76 [1,1,0,0,1,0,1,1])::td247
def weirref05_token.l0 (a0 : ByteArray) (t101 : Int) : Option Int :=
  (if (decide (t101 < (a0.size : Int))) = true then (if 0 ≤ t101 ∧ t101 < (a0.size : Int) then (if ((byt a0 t101) != 34) = true then (if 0 ≤ t101 ∧ t101 < (a0.size : Int) then (if ((byt a0 t101) != 10) = true then (weirref05_token.l0 a0 (IntKind.i64.wrap (t101 + 1))) else some (t101)) else none) else some (t101)) else none) else some (t101))
 partial_fixpoint
def weirref05_token.l1 (a0 : ByteArray) (a1 t188 : Int) : Option Int :=
  (((if (decide ((IntKind.i64.wrap (a1 + t188)) < (a0.size : Int))) = true then (if 0 ≤ (IntKind.i64.wrap (a1 + t188)) ∧ (IntKind.i64.wrap (a1 + t188)) < (a0.size : Int) then (weirref05_letter.f (byt a0 (IntKind.i64.wrap (a1 + t188))) >>= (fun t212 => (if t212 = true then some (.inl ()) else (if 0 ≤ (IntKind.i64.wrap (a1 + t188)) ∧ (IntKind.i64.wrap (a1 + t188)) < (a0.size : Int) then (weirref05_digit.f (byt a0 (IntKind.i64.wrap (a1 + t188))) >>= (fun t220 => (if t220 = true then some (.inl ()) else (if 0 ≤ (IntKind.i64.wrap (a1 + t188)) ∧ (IntKind.i64.wrap (a1 + t188)) < (a0.size : Int) then (if ((byt a0 (IntKind.i64.wrap (a1 + t188))) == 46) = true then some (.inl ()) else some (.inr (t188))) else none)))) else none)))) else none) else some (.inr (t188))) : Option (Sum Unit Int)) >>= (fun | .inl () => (weirref05_token.l1 a0 a1 (IntKind.i64.wrap (t188 + 1))) | .inr e => some e))
 partial_fixpoint
def weirref05_token.l2 (a0 : ByteArray) (t280 : Int) : Option Int :=
  (if (decide (t280 < (a0.size : Int))) = true then (if 0 ≤ t280 ∧ t280 < (a0.size : Int) then (if ((byt a0 t280) != 34) = true then (if 0 ≤ t280 ∧ t280 < (a0.size : Int) then (if ((byt a0 t280) != 10) = true then (weirref05_token.l2 a0 (IntKind.i64.wrap (t280 + 1))) else some (t280)) else none) else some (t280)) else none) else some (t280))
 partial_fixpoint
def weirref05_token.l3 (a0 : ByteArray) (t374 : Int) : Option Int :=
  (if (decide (t374 < (a0.size : Int))) = true then (if 0 ≤ t374 ∧ t374 < (a0.size : Int) then (if ((byt a0 t374) != 34) = true then (if 0 ≤ t374 ∧ t374 < (a0.size : Int) then (if ((byt a0 t374) != 10) = true then (weirref05_token.l3 a0 (IntKind.i64.wrap (t374 + 1))) else some (t374)) else none) else some (t374)) else none) else some (t374))
 partial_fixpoint
def weirref05_token.l4 (a0 : ByteArray) (a1 t461 : Int) : Option Int :=
  (((if (decide ((IntKind.i64.wrap (a1 + t461)) < (a0.size : Int))) = true then (if 0 ≤ (IntKind.i64.wrap (a1 + t461)) ∧ (IntKind.i64.wrap (a1 + t461)) < (a0.size : Int) then (weirref05_letter.f (byt a0 (IntKind.i64.wrap (a1 + t461))) >>= (fun t485 => (if t485 = true then some (.inl ()) else (if 0 ≤ (IntKind.i64.wrap (a1 + t461)) ∧ (IntKind.i64.wrap (a1 + t461)) < (a0.size : Int) then (weirref05_digit.f (byt a0 (IntKind.i64.wrap (a1 + t461))) >>= (fun t493 => (if t493 = true then some (.inl ()) else (if 0 ≤ (IntKind.i64.wrap (a1 + t461)) ∧ (IntKind.i64.wrap (a1 + t461)) < (a0.size : Int) then (if ((byt a0 (IntKind.i64.wrap (a1 + t461))) == 46) = true then some (.inl ()) else some (.inr (t461))) else none)))) else none)))) else none) else some (.inr (t461))) : Option (Sum Unit Int)) >>= (fun | .inl () => (weirref05_token.l4 a0 a1 (IntKind.i64.wrap (t461 + 1))) | .inr e => some e))
 partial_fixpoint
def weirref05_token.f (a0 : ByteArray) (a1 : Int) : Option (api_Token × Int × Int) :=
  (if 0 ≤ a1 ∧ a1 < (a0.size : Int) then (weirref05_letter.f (byt a0 a1) >>= (fun t13 => (((if t13 = true then (weirref05_name.f a0 a1 >>= (fun t510 => (if (decide (t510 > 64)) = true then some (.inr (((⟨0,(⟨#[]⟩ : ByteArray),0,0,0,0,0⟩ : api_Token),1,a1))) else (if 0 ≤ a1 ∧ a1 ≤ (IntKind.i64.wrap (a1 + t510)) ∧ (IntKind.i64.wrap (a1 + t510)) ≤ (a0.size : Int) then some (.inl (⟨1,(a0.extract a1.toNat (IntKind.i64.wrap (a1 + t510)).toNat),0,0,0,a1,(IntKind.i64.wrap (a1 + t510))⟩ : api_Token)) else none)))) else (if 0 ≤ a1 ∧ a1 < (a0.size : Int) then (weirref05_digit.f (byt a0 a1) >>= (fun t36 => (if t36 = true then (weirref05_token.l4 a0 a1 1 >>= (fun t428 => (if 0 ≤ a1 ∧ a1 ≤ (IntKind.i64.wrap (a1 + t428)) ∧ (IntKind.i64.wrap (a1 + t428)) ≤ (a0.size : Int) then (weirref04_Parse.f (a0.extract a1.toNat (IntKind.i64.wrap (a1 + t428)).toNat) >>= (fun (t436,t437) => (if (t437 != 0) = true then some (.inr (((⟨0,(⟨#[]⟩ : ByteArray),0,0,0,0,0⟩ : api_Token),t437,a1))) else (if 0 ≤ a1 ∧ a1 ≤ (IntKind.i64.wrap (a1 + t428)) ∧ (IntKind.i64.wrap (a1 + t428)) ≤ (a0.size : Int) then some (.inl (⟨2,(a0.extract a1.toNat (IntKind.i64.wrap (a1 + t428)).toNat),t436,0,0,a1,(IntKind.i64.wrap (a1 + t428))⟩ : api_Token)) else none)))) else none))) else (if 0 ≤ a1 ∧ a1 < (a0.size : Int) then (if ((byt a0 a1) == 45) = true then (if (decide ((IntKind.i64.wrap (a1 + 1)) < (a0.size : Int))) = true then (if 0 ≤ (IntKind.i64.wrap (a1 + 1)) ∧ (IntKind.i64.wrap (a1 + 1)) < (a0.size : Int) then (weirref05_digit.f (byt a0 (IntKind.i64.wrap (a1 + 1))) >>= (fun t52 => (if t52 = true then (weirref05_token.l1 a0 a1 1 >>= (fun t155 => (if 0 ≤ a1 ∧ a1 ≤ (IntKind.i64.wrap (a1 + t155)) ∧ (IntKind.i64.wrap (a1 + t155)) ≤ (a0.size : Int) then (weirref04_Parse.f (a0.extract a1.toNat (IntKind.i64.wrap (a1 + t155)).toNat) >>= (fun (t163,t164) => (if (t164 != 0) = true then some (.inr (((⟨0,(⟨#[]⟩ : ByteArray),0,0,0,0,0⟩ : api_Token),t164,a1))) else (if 0 ≤ a1 ∧ a1 ≤ (IntKind.i64.wrap (a1 + t155)) ∧ (IntKind.i64.wrap (a1 + t155)) ≤ (a0.size : Int) then some (.inl (⟨2,(a0.extract a1.toNat (IntKind.i64.wrap (a1 + t155)).toNat),t163,0,0,a1,(IntKind.i64.wrap (a1 + t155))⟩ : api_Token)) else none)))) else none))) else (if 0 ≤ a1 ∧ a1 < (a0.size : Int) then (if ((byt a0 a1) == 34) = true then (weirref05_token.l0 a0 (IntKind.i64.wrap (a1 + 1)) >>= (fun t66 => (if (t66 == (a0.size : Int)) = true then some (.inr (((⟨0,(⟨#[]⟩ : ByteArray),0,0,0,0,0⟩ : api_Token),50,t66))) else (if 0 ≤ t66 ∧ t66 < (a0.size : Int) then (if ((byt a0 t66) == 10) = true then some (.inr (((⟨0,(⟨#[]⟩ : ByteArray),0,0,0,0,0⟩ : api_Token),50,t66))) else (if 0 ≤ (IntKind.i64.wrap (a1 + 1)) ∧ (IntKind.i64.wrap (a1 + 1)) ≤ t66 ∧ t66 ≤ (a0.size : Int) then some (.inl (⟨3,(a0.extract (IntKind.i64.wrap (a1 + 1)).toNat t66.toNat),0,0,0,a1,(IntKind.i64.wrap (t66 + 1))⟩ : api_Token)) else none)) else none)))) else (weirref05_sign.f a0 a1 >>= (fun t129 => (if (seq t129 (⟨#[]⟩ : ByteArray)) = true then some (.inr (((⟨0,(⟨#[]⟩ : ByteArray),0,0,0,0,0⟩ : api_Token),50,a1))) else some (.inl (⟨4,t129,0,0,0,a1,(IntKind.i64.wrap (a1 + (t129.size : Int)))⟩ : api_Token)))))) else none)))) else none) else (if 0 ≤ a1 ∧ a1 < (a0.size : Int) then (if ((byt a0 a1) == 34) = true then (weirref05_token.l2 a0 (IntKind.i64.wrap (a1 + 1)) >>= (fun t245 => (if (t245 == (a0.size : Int)) = true then some (.inr (((⟨0,(⟨#[]⟩ : ByteArray),0,0,0,0,0⟩ : api_Token),50,t245))) else (if 0 ≤ t245 ∧ t245 < (a0.size : Int) then (if ((byt a0 t245) == 10) = true then some (.inr (((⟨0,(⟨#[]⟩ : ByteArray),0,0,0,0,0⟩ : api_Token),50,t245))) else (if 0 ≤ (IntKind.i64.wrap (a1 + 1)) ∧ (IntKind.i64.wrap (a1 + 1)) ≤ t245 ∧ t245 ≤ (a0.size : Int) then some (.inl (⟨3,(a0.extract (IntKind.i64.wrap (a1 + 1)).toNat t245.toNat),0,0,0,a1,(IntKind.i64.wrap (t245 + 1))⟩ : api_Token)) else none)) else none)))) else (weirref05_sign.f a0 a1 >>= (fun t308 => (if (seq t308 (⟨#[]⟩ : ByteArray)) = true then some (.inr (((⟨0,(⟨#[]⟩ : ByteArray),0,0,0,0,0⟩ : api_Token),50,a1))) else some (.inl (⟨4,t308,0,0,0,a1,(IntKind.i64.wrap (a1 + (t308.size : Int)))⟩ : api_Token)))))) else none)) else (if 0 ≤ a1 ∧ a1 < (a0.size : Int) then (if ((byt a0 a1) == 34) = true then (weirref05_token.l3 a0 (IntKind.i64.wrap (a1 + 1)) >>= (fun t339 => (if (t339 == (a0.size : Int)) = true then some (.inr (((⟨0,(⟨#[]⟩ : ByteArray),0,0,0,0,0⟩ : api_Token),50,t339))) else (if 0 ≤ t339 ∧ t339 < (a0.size : Int) then (if ((byt a0 t339) == 10) = true then some (.inr (((⟨0,(⟨#[]⟩ : ByteArray),0,0,0,0,0⟩ : api_Token),50,t339))) else (if 0 ≤ (IntKind.i64.wrap (a1 + 1)) ∧ (IntKind.i64.wrap (a1 + 1)) ≤ t339 ∧ t339 ≤ (a0.size : Int) then some (.inl (⟨3,(a0.extract (IntKind.i64.wrap (a1 + 1)).toNat t339.toNat),0,0,0,a1,(IntKind.i64.wrap (t339 + 1))⟩ : api_Token)) else none)) else none)))) else (weirref05_sign.f a0 a1 >>= (fun t402 => (if (seq t402 (⟨#[]⟩ : ByteArray)) = true then some (.inr (((⟨0,(⟨#[]⟩ : ByteArray),0,0,0,0,0⟩ : api_Token),50,a1))) else some (.inl (⟨4,t402,0,0,0,a1,(IntKind.i64.wrap (a1 + (t402.size : Int)))⟩ : api_Token)))))) else none)) else none)))) else none)) : Option (Sum api_Token (api_Token × Int × Int))) >>= (fun | .inl t21 => some ((t21,0,0)) | .inr e => some e)))) else none)
theorem weirref05_token.ok {a0 : ByteArray} {a1 : Int} {q0 : api_Token} {q1 q2 : Int} (hp0 : weirref05_token.f a0 a1 = some (q0,q1,q2)) (hS0 : St w0 Z (fs) w) :
    Calls Tryz.prog 76 #[.string a0,.int .i64 a1] w (fun e w' => e = .returned (.tuple #[.agg (enc_api_Token q0).toArray,.int .i64 q1,.int .i64 q2]) ∧ St w0 Z (fs) w'):=by
  refine calls_abs ?_; intro R hR
  unfold weirref05_token.f at hp0
  refine calls_of_runs (fn:=Tryz.f76) (c:=cd76 []) Tryz.func76 (by kernel_rfl) (al:=[.string a0,.int .i64 a1]) rfl (n:=187) rfl ?_
  refine sR 2 [.inRegion (opsOf (cd76 [0])) [0,1,2],.code (cd76 [1])] ?_
  refine rA 75 (.agg (enc_api_Token (⟨0,(⟨#[]⟩ : ByteArray),0,0,0,0,0⟩ : api_Token)).toArray) (enc_api_Token (⟨0,(⟨#[]⟩ : ByteArray),0,0,0,0,0⟩ : api_Token)) hS0 ?_
  intro b1 w2 hS3
  refine sR 7 [.inRegion (opsOf (cd76 [1,0])) [2,3],.code (cd76 [1,1])] ?_
  refine rA 75 (.agg (enc_api_Token (⟨0,(⟨#[]⟩ : ByteArray),0,0,0,0,0⟩ : api_Token)).toArray) (enc_api_Token (⟨0,(⟨#[]⟩ : ByteArray),0,0,0,0,0⟩ : api_Token)) hS3 ?_
  intro b5 w6 hS7
  refine rSA 75 (.tmp 7) (.tmp 15) (enc_api_Token (⟨0,(⟨#[]⟩ : ByteArray),0,0,0,a1,0⟩ : api_Token)) hS7 (one_api_Token _) ?_
  intro w9 hS10
  refine sR 7 (.inRegion (opsOf (cd76 [1,1,0,0,0])) [2,3,4]::.code (cd76 [1,1,0,0,1])::td247) ?_
  obtain ⟨g11,hp12⟩:=ite_some hp0
  refine rV (.index 9 (.tmp 32) (.tmp 33)) (.int .u8 (byt a0 a1)) (fun o ho _ => x_indexStr (kk:=.i64) (by kernel_rfl) (by kernel_rfl) (by kernel_rfl) g11.1 g11.2 ho) ?_
  obtain ⟨t13,hr14,hp15⟩:=bind_some' hp12
  refine rC (weirref05_letter.ok hr14 hS10) ?_
  rintro _ w16 ⟨rfl,hS17⟩
  refine ⟨_,rfl,?_⟩
  refine sR 2 (.code (cd76 [1,1,0,0,1])::td247) ?_
  obtain ⟨v18,hv19,hp20⟩:=bind_some' hp15
  have hq24 : ∀ x,Sum.inr x = v18 → x = (q0,q1,q2):=by intro x hx; subst hx; simpa using hp20
  have J25 : ∀ (t21 : api_Token) (he27 : Sum.inl t21 = v18) (l26 : List Value) (w22 : World) (hS23 : St w0 Z (xblk b1 75 (enc_api_Token (⟨0,(⟨#[]⟩ : ByteArray),0,0,0,0,0⟩ : api_Token))::xblk b5 75 (enc_api_Token t21)::fs) w22),Runs Tryz.prog (fx 76) td246 (fill (mk 189 [(4,.pointer (some ⟨b1,0,none⟩)),(7,.pointer (some ⟨b5,0,none⟩))]) l26) w22 R:=by
   intro t21 he27 l26 w22 hS23
   subst he27
   try dsimp only at hp20
   refine sR 2 [iR (cd76 [1,1,1,0]) 0 4,.code (cd76 [1,1,1,1])] ?_
   refine rLa 75 (.tmp 7) (hS23.blk 1 rfl) ?_
   refine rSA 75 (.tmp 4) (.tmp 188) (enc_api_Token t21) hS23 (one_api_Token _) ?_
   intro w28 hS29
   refine sR 3 [.code (cd76 [1,1,1,1])] ?_
   have hS30:=hS29.drop
   have hS31:=hS30.drop
   refine rRc (.tuple #[.agg (enc_api_Token t21).toArray,.int .i64 0,.int .i64 0]) (.ca 4 75 (hS29.blk 0 rfl) (.tm 5 (.tm 6 .nil))) Tryz.func76 ?_
   cases Option.some.inj hp20
   exact hR _ _ ⟨rfl,hS31⟩
  cases t13
  ·have hp33:=ite_f hv19 rfl
   refine sR 5 (iR p76_9 2 23::td248) ?_
   obtain ⟨g34,hp35⟩:=ite_some hp33
   refine rV (.index 9 (.tmp 56) (.tmp 57)) (.int .u8 (byt a0 a1)) (fun o ho _ => x_indexStr (kk:=.i64) (by kernel_rfl) (by kernel_rfl) (by kernel_rfl) g34.1 g34.2 ho) ?_
   obtain ⟨t36,hr37,hp38⟩:=bind_some' hp35
   refine rC (weirref05_digit.ok hr37 hS17) ?_
   rintro _ w39 ⟨rfl,hS40⟩
   refine ⟨_,rfl,?_⟩
   refine sR 1 (iR p76_9 5 20::td248) ?_
   cases t36
   ·have hp41:=ite_f hp38 rfl
    refine sR 2 (iR p76_9 7 18::td248) ?_
    obtain ⟨g42,hp43⟩:=ite_some hp41
    refine rV (.index 9 (.tmp 61) (.tmp 62)) (.int .u8 (byt a0 a1)) (fun o ho _ => x_indexStr (kk:=.i64) (by kernel_rfl) (by kernel_rfl) (by kernel_rfl) g42.1 g42.2 ho) ?_
    refine sI 1 (iR p76_9 9 16::td248) 64 hp43 (fun hp46 => ?_) fun hp330 => ?_
    ·refine sI 6 (iR p76_9 15 10::td248) 70 hp46 (fun hp49 => ?_) fun hp236 => ?_
     ·refine sR 5 (iR p76_9 20 5::td248) ?_
      obtain ⟨g50,hp51⟩:=ite_some hp49
      refine rV (.index 9 (.tmp 73) (.tmp 75)) (.int .u8 (byt a0 (IntKind.i64.wrap (a1 + 1)))) (fun o ho _ => x_indexStr (kk:=.i64) (by kernel_rfl) (by kernel_rfl) (by kernel_rfl) g50.1 g50.2 ho) ?_
      obtain ⟨t52,hr53,hp54⟩:=bind_some' hp51
      refine rC (weirref05_digit.ok hr53 hS40) ?_
      rintro _ w55 ⟨rfl,hS56⟩
      refine ⟨_,rfl,?_⟩
      refine sR 4 td248 ?_
      cases t52
      ·have hp57:=ite_f hp54 rfl
       refine sR 5 td250 ?_
       obtain ⟨g58,hp59⟩:=ite_some hp57
       refine rV (.index 9 (.tmp 142) (.tmp 143)) (.int .u8 (byt a0 a1)) (fun o ho _ => x_indexStr (kk:=.i64) (by kernel_rfl) (by kernel_rfl) (by kernel_rfl) g58.1 g58.2 ho) ?_
       refine sI 1 td251 145 hp59 (fun hp62 => ?_) fun hp128 => ?_
       ·refine sR 12 td255 ?_
        obtain ⟨v63,hv64,hp65⟩:=bind_some' hp62
        have J69 : ∀ (t66 : Int) (he71 : t66 = v63) (l70 : List Value) (w67 : World) (hS68 : St w0 Z (xblk b1 75 (enc_api_Token (⟨0,(⟨#[]⟩ : ByteArray),0,0,0,0,0⟩ : api_Token))::xblk b5 75 (enc_api_Token (⟨0,(⟨#[]⟩ : ByteArray),0,0,0,a1,0⟩ : api_Token))::fs) w67),Runs Tryz.prog (fx 76) td252 (fill (mk 189 [(0,.string a0),(1,.int .i64 a1),(4,.pointer (some ⟨b1,0,none⟩)),(7,.pointer (some ⟨b5,0,none⟩)),(12,.int .i64 t66)]) l70) w67 R:=by
         intro t66 he71 l70 w67 hS68
         subst he71
         try dsimp only at hp65
         refine sI 7 td258 169 hp65 (fun hp74 => ?_) fun hp80 => ?_
         ·refine sR 12 td260 ?_
          refine rSA 75 (.tmp 4) (.tmp 176) (enc_api_Token (⟨0,(⟨#[]⟩ : ByteArray),0,0,0,0,0⟩ : api_Token)) hS68 (one_api_Token _) ?_
          intro w75 hS76
          refine sR 3 td259 ?_
          refine r_isret (c:=p76_19) (by kernel_rfl) ?_
          have hS77:=hS76.drop
          have hS78:=hS77.drop
          refine rRc (.tuple #[.agg (enc_api_Token (⟨0,(⟨#[]⟩ : ByteArray),0,0,0,0,0⟩ : api_Token)).toArray,.int .i64 50,.int .i64 t66]) (.ca 4 75 (hS76.blk 0 rfl) (.tm 5 (.tm 6 .nil))) Tryz.func76 ?_
          cases hq24 _ (Option.some.inj hp74)
          exact hR _ _ ⟨rfl,hS78⟩
         refine sR 3 td261 ?_
         obtain ⟨g81,hp82⟩:=ite_some hp80
         refine rV (.index 9 (.tmp 171) (.tmp 172)) (.int .u8 (byt a0 t66)) (fun o ho _ => x_indexStr (kk:=.i64) (by kernel_rfl) (by kernel_rfl) (by kernel_rfl) g81.1 g81.2 ho) ?_
         refine sI 1 td262 174 hp82 (fun hp85 => ?_) fun hp91 => ?_
         ·refine sR 7 td260 ?_
          refine rSA 75 (.tmp 4) (.tmp 176) (enc_api_Token (⟨0,(⟨#[]⟩ : ByteArray),0,0,0,0,0⟩ : api_Token)) hS68 (one_api_Token _) ?_
          intro w86 hS87
          refine sR 3 td259 ?_
          refine r_isret (c:=p76_19) (by kernel_rfl) ?_
          have hS88:=hS87.drop
          have hS89:=hS88.drop
          refine rRc (.tuple #[.agg (enc_api_Token (⟨0,(⟨#[]⟩ : ByteArray),0,0,0,0,0⟩ : api_Token)).toArray,.int .i64 50,.int .i64 t66]) (.ca 4 75 (hS87.blk 0 rfl) (.tm 5 (.tm 6 .nil))) Tryz.func76 ?_
          cases hq24 _ (Option.some.inj hp85)
          exact hR _ _ ⟨rfl,hS89⟩
         refine sR 4 td256 ?_
         obtain ⟨g92,hp93⟩:=ite_some hp91
         have hS97:=hS68.pick1
         refine rT 25 [enc_api_Token (⟨0,(⟨#[]⟩ : ByteArray),0,0,0,a1,0⟩ : api_Token),enc_api_Token (⟨3,(⟨#[]⟩ : ByteArray),0,0,0,a1,0⟩ : api_Token),enc_api_Token (⟨3,(a0.extract (IntKind.i64.wrap (a1 + 1)).toNat t66.toNat),0,0,0,a1,0⟩ : api_Token),enc_api_Token (⟨3,(a0.extract (IntKind.i64.wrap (a1 + 1)).toNat t66.toNat),0,0,0,a1,(IntKind.i64.wrap (t66 + 1))⟩ : api_Token)] [.string a0,.int .i64 a1,.int .i64 (IntKind.i64.wrap (a1 + 1)),.int .i64 t66,.string (a0.extract (IntKind.i64.wrap (a1 + 1)).toNat t66.toNat),.int .i64 t66,.int .i64 (IntKind.i64.wrap (t66 + 1)),.pointer (some ⟨b5,0,none⟩),undef,.pointer (some ⟨b5,1,none⟩),undef,.pointer (some ⟨b5,6,none⟩),undef] 8 13 [8,10,12] [0,0,0,0,0,0,0,0,0,1,1,2,2] [1,1,1,1,1,2,2,0,1,1,2,2,3] [] [0,1,2,3,5,6,7,9,11] [4] hS97 ⟨fun _ => x_cutStr_ss (t:=9) (x:=(.tmp 178)) (lo:=(.tmp 180)) (hi:=(.tmp 181)) (k:=.i64) (k':=.i64) (by kernel_rfl) (by kernel_rfl) (by kernel_rfl) (by kernel_rfl) g92 (by kernel_rfl),trivial⟩ ⟨sT 3 (.tmp 185) (.const (.int .i64 3)) 0 (.int .i64 3) [.int .i64 3],sT 9 (.tmp 186) (.tmp 182) 1 (.string (a0.extract (IntKind.i64.wrap (a1 + 1)).toNat t66.toNat)) [.string (a0.extract (IntKind.i64.wrap (a1 + 1)).toNat t66.toNat)],sT 3 (.tmp 187) (.tmp 184) 6 (.int .i64 (IntKind.i64.wrap (t66 + 1))) [.int .i64 (IntKind.i64.wrap (t66 + 1))],trivial⟩ ?_
         intro w98 hS99
         change St w0 Z (xblk b5 75 (enc_api_Token (⟨3,(a0.extract (IntKind.i64.wrap (a1 + 1)).toNat t66.toNat),0,0,0,a1,(IntKind.i64.wrap (t66 + 1))⟩ : api_Token))::_) w98 at hS99
         refine sR 1 td246 ?_
         have hS100:=hS99.pick1
         exact rF _ (J25 (⟨3,(a0.extract (IntKind.i64.wrap (a1 + 1)).toNat t66.toNat),0,0,0,a1,(IntKind.i64.wrap (t66 + 1))⟩ : api_Token) (Option.some.inj hp93) _ _ hS100)
        have L110 : ∀ (t101 e105 : Int),weirref05_token.l0 a0 t101 = some e105 → e105 = v63 → ∀ (l104 : List Value) (w102 : World) (hS103 : St w0 Z (xblk b1 75 (enc_api_Token (⟨0,(⟨#[]⟩ : ByteArray),0,0,0,0,0⟩ : api_Token))::xblk b5 75 (enc_api_Token (⟨0,(⟨#[]⟩ : ByteArray),0,0,0,a1,0⟩ : api_Token))::fs) w102),Runs Tryz.prog (fx 76) td255 (fill (mk 189 [(0,.string a0),(1,.int .i64 a1),(4,.pointer (some ⟨b1,0,none⟩)),(7,.pointer (some ⟨b5,0,none⟩)),(12,.int .i64 t101)]) l104) w102 R:=by
         refine weirref05_token.l0.partial_correctness a0 (fun t101 e105 => e105 = v63 → ∀ (l104 : List Value) (w102 : World) (hS103 : St w0 Z (xblk b1 75 (enc_api_Token (⟨0,(⟨#[]⟩ : ByteArray),0,0,0,0,0⟩ : api_Token))::xblk b5 75 (enc_api_Token (⟨0,(⟨#[]⟩ : ByteArray),0,0,0,a1,0⟩ : api_Token))::fs) w102),Runs Tryz.prog (fx 76) td255 (fill (mk 189 [(0,.string a0),(1,.int .i64 a1),(4,.pointer (some ⟨b1,0,none⟩)),(7,.pointer (some ⟨b5,0,none⟩)),(12,.int .i64 t101)]) l104) w102 R) ?_
         intro rec109 ih108 t101 e105 hb107 he106 l104 w102 hS103
         refine sI 7 td265 151 hb107 (fun hp113 => ?_) fun hp126 => ?_
         ·refine sR 3 td266 ?_
          obtain ⟨g114,hp115⟩:=ite_some hp113
          refine rV (.index 9 (.tmp 153) (.tmp 154)) (.int .u8 (byt a0 t101)) (fun o ho _ => x_indexStr (kk:=.i64) (by kernel_rfl) (by kernel_rfl) (by kernel_rfl) g114.1 g114.2 ho) ?_
          refine sI 1 td267 156 hp115 (fun hp118 => ?_) fun hp125 => ?_
          ·refine sR 4 td268 ?_
           obtain ⟨g119,hp120⟩:=ite_some hp118
           refine rV (.index 9 (.tmp 159) (.tmp 160)) (.int .u8 (byt a0 t101)) (fun o ho _ => x_indexStr (kk:=.i64) (by kernel_rfl) (by kernel_rfl) (by kernel_rfl) g119.1 g119.2 ho) ?_
           refine sI 1 td269 162 hp120 (fun hp123 => ?_) fun hp124 => ?_
           ·refine sR 11 td254 ?_
            refine sR 1 td255 ?_
            exact rF _ (ih108 (IntKind.i64.wrap (t101 + 1)) _ hp123 he106 _ _ hS103)
           refine sR 4 td252 ?_
           exact rF _ (J69 t101 ((Option.some.inj hp124).trans he106) _ _ hS103)
          refine sR 10 td252 ?_
          exact rF _ (J69 t101 ((Option.some.inj hp125).trans he106) _ _ hS103)
         refine sR 15 td252 ?_
         exact rF _ (J69 t101 ((Option.some.inj hp126).trans he106) _ _ hS103)
        have hS127:=hS56.pick1
        exact rF _ (L110 (IntKind.i64.wrap (a1 + 1)) _ hv64 rfl _ _ hS127)
       refine sR 7 td271 ?_
       obtain ⟨t129,hr130,hp131⟩:=bind_some' hp128
       refine rC (weirref05_sign.ok hr130 hS56) ?_
       rintro _ w132 ⟨rfl,hS133⟩
       refine ⟨_,rfl,?_⟩
       refine sI 7 td274 20 hp131 (fun hp136 => ?_) fun hp143 => ?_
       ·refine sR 6 td276 ?_
        have hS137:=hS133.pick1
        refine rSA 75 (.tmp 4) (.tmp 21) (enc_api_Token (⟨0,(⟨#[]⟩ : ByteArray),0,0,0,0,0⟩ : api_Token)) hS137 (one_api_Token _) ?_
        intro w138 hS139
        refine sR 3 td275 ?_
        refine r_isret (c:=p76_29) (by kernel_rfl) ?_
        have hS140:=hS139.drop
        have hS141:=hS140.drop
        refine rRc (.tuple #[.agg (enc_api_Token (⟨0,(⟨#[]⟩ : ByteArray),0,0,0,0,0⟩ : api_Token)).toArray,.int .i64 50,.int .i64 a1]) (.ca 4 75 (hS139.blk 0 rfl) (.tm 5 (.tm 6 .nil))) Tryz.func76 ?_
        cases hq24 _ (Option.some.inj hp136)
        exact hR _ _ ⟨rfl,hS141⟩
       refine sR 10 td277 ?_
       refine rS 3 (.tmp 28) (.const (.int .i64 4)) 0 (.int .i64 4) [.int .i64 4] (enc_api_Token (⟨4,(⟨#[]⟩ : ByteArray),0,0,0,a1,0⟩ : api_Token)) hS133 ?_
       intro w144 hS145
       refine sR 1 td278 ?_
       refine rS 9 (.tmp 29) (.tmp 23) 1 (.string t129) [.string t129] (enc_api_Token (⟨4,t129,0,0,0,a1,0⟩ : api_Token)) hS145 ?_
       intro w146 hS147
       refine sR 1 td279 ?_
       refine rS 3 (.tmp 30) (.tmp 27) 6 (.int .i64 (IntKind.i64.wrap (a1 + (t129.size : Int)))) [.int .i64 (IntKind.i64.wrap (a1 + (t129.size : Int)))] (enc_api_Token (⟨4,t129,0,0,0,a1,(IntKind.i64.wrap (a1 + (t129.size : Int)))⟩ : api_Token)) hS147 ?_
       intro w148 hS149
       refine sR 2 td246 ?_
       have hS150:=hS149.pick1
       exact rF _ (J25 (⟨4,t129,0,0,0,a1,(IntKind.i64.wrap (a1 + (t129.size : Int)))⟩ : api_Token) (Option.some.inj hp143) _ _ hS150)
      have hp151:=ite_t hp54 rfl
      refine sR 8 td283 ?_
      obtain ⟨v152,hv153,hp154⟩:=bind_some' hp151
      have J158 : ∀ (t155 : Int) (he160 : t155 = v152) (l159 : List Value) (w156 : World) (hS157 : St w0 Z (xblk b1 75 (enc_api_Token (⟨0,(⟨#[]⟩ : ByteArray),0,0,0,0,0⟩ : api_Token))::xblk b5 75 (enc_api_Token (⟨0,(⟨#[]⟩ : ByteArray),0,0,0,a1,0⟩ : api_Token))::fs) w156),Runs Tryz.prog (fx 76) td280 (fill (mk 189 [(0,.string a0),(1,.int .i64 a1),(4,.pointer (some ⟨b1,0,none⟩)),(7,.pointer (some ⟨b5,0,none⟩)),(9,.int .i64 t155)]) l159) w156 R:=by
       intro t155 he160 l159 w156 hS157
       subst he160
       try dsimp only at hp154
       refine sR 7 (iR p76_32 5 7::.code p76_33::td247) ?_
       obtain ⟨g161,hp162⟩:=ite_some hp154
       refine rV (.slice 9 (.tmp 113) (some (.tmp 114)) (some (.tmp 117)) none) (.string (a0.extract a1.toNat (IntKind.i64.wrap (a1 + t155)).toNat)) (fun o ho _ => x_cutStr_ss (k:=.i64) (k':=.i64) (by kernel_rfl) (by kernel_rfl) (by kernel_rfl) (by kernel_rfl) g161 ho) ?_
       obtain ⟨⟨t163,t164⟩,hr165,hp166⟩:=bind_some' hp162
       try dsimp only at hp166
       refine rC (weirref04_Parse.ok hr165 hS157) ?_
       rintro _ w167 ⟨rfl,hS168⟩
       refine ⟨_,rfl,?_⟩
       refine sI 11 (.inRegion (opsOf p76_34) []::.code p76_35::td284) 123 hp166 (fun hp171 => ?_) fun hp177 => ?_
       ·refine sR 7 (.inRegion (opsOf p76_37) [3,4,5]::td285) ?_
        refine rSA 75 (.tmp 4) (.tmp 124) (enc_api_Token (⟨0,(⟨#[]⟩ : ByteArray),0,0,0,0,0⟩ : api_Token)) hS168 (one_api_Token _) ?_
        intro w172 hS173
        refine sR 3 td285 ?_
        refine r_isret (c:=p76_38) (by kernel_rfl) ?_
        have hS174:=hS173.drop
        have hS175:=hS174.drop
        refine rRc (.tuple #[.agg (enc_api_Token (⟨0,(⟨#[]⟩ : ByteArray),0,0,0,0,0⟩ : api_Token)).toArray,.int .i64 t164,.int .i64 a1]) (.ca 4 75 (hS173.blk 0 rfl) (.tm 5 (.tm 6 .nil))) Tryz.func76 ?_
        cases hq24 _ (Option.some.inj hp171)
        exact hR _ _ ⟨rfl,hS175⟩
       refine sR 3 td284 ?_
       obtain ⟨g178,hp179⟩:=ite_some hp177
       have hS184:=hS168.pick1
       refine rT 18 [enc_api_Token (⟨0,(⟨#[]⟩ : ByteArray),0,0,0,a1,0⟩ : api_Token),enc_api_Token (⟨2,(⟨#[]⟩ : ByteArray),0,0,0,a1,0⟩ : api_Token),enc_api_Token (⟨2,(a0.extract a1.toNat (IntKind.i64.wrap (a1 + t155)).toNat),0,0,0,a1,0⟩ : api_Token),enc_api_Token (⟨2,(a0.extract a1.toNat (IntKind.i64.wrap (a1 + t155)).toNat),t163,0,0,a1,0⟩ : api_Token),enc_api_Token (⟨2,(a0.extract a1.toNat (IntKind.i64.wrap (a1 + t155)).toNat),t163,0,0,a1,(IntKind.i64.wrap (a1 + t155))⟩ : api_Token)] [.string a0,.int .i64 a1,.int .i64 a1,.int .i64 t155,.int .i64 (IntKind.i64.wrap (a1 + t155)),.string (a0.extract a1.toNat (IntKind.i64.wrap (a1 + t155)).toNat),.int .i64 t163,.int .i64 a1,.int .i64 t155,.int .i64 (IntKind.i64.wrap (a1 + t155)),.pointer (some ⟨b5,0,none⟩),undef,.pointer (some ⟨b5,1,none⟩),undef,.pointer (some ⟨b5,2,none⟩),undef,.pointer (some ⟨b5,6,none⟩),undef] 11 18 [11,13,15,17] [0,0,0,0,0,0,0,0,0,0,0,0,1,1,2,2,3,3] [1,1,1,1,1,1,2,3,3,3,0,1,1,2,2,3,3,4] [] [0,1,2,3,4,6,7,8,9,10,12,14,16] [5] hS184 ⟨fun _ => x_cutStr_ss (t:=9) (x:=(.tmp 127)) (lo:=(.tmp 128)) (hi:=(.tmp 131)) (k:=.i64) (k':=.i64) (by kernel_rfl) (by kernel_rfl) (by kernel_rfl) (by kernel_rfl) g178 (by kernel_rfl),trivial⟩ ⟨sT 3 (.tmp 137) (.const (.int .i64 2)) 0 (.int .i64 2) [.int .i64 2],sT 9 (.tmp 138) (.tmp 132) 1 (.string (a0.extract a1.toNat (IntKind.i64.wrap (a1 + t155)).toNat)) [.string (a0.extract a1.toNat (IntKind.i64.wrap (a1 + t155)).toNat)],sT 2 (.tmp 139) (.tmp 133) 2 (.int .i64 t163) [.int .i64 t163],sT 3 (.tmp 140) (.tmp 136) 6 (.int .i64 (IntKind.i64.wrap (a1 + t155))) [.int .i64 (IntKind.i64.wrap (a1 + t155))],trivial⟩ ?_
       intro w185 hS186
       change St w0 Z (xblk b5 75 (enc_api_Token (⟨2,(a0.extract a1.toNat (IntKind.i64.wrap (a1 + t155)).toNat),t163,0,0,a1,(IntKind.i64.wrap (a1 + t155))⟩ : api_Token))::_) w185 at hS186
       refine sR 1 td246 ?_
       have hS187:=hS186.pick1
       exact rF _ (J25 (⟨2,(a0.extract a1.toNat (IntKind.i64.wrap (a1 + t155)).toNat),t163,0,0,a1,(IntKind.i64.wrap (a1 + t155))⟩ : api_Token) (Option.some.inj hp179) _ _ hS187)
      have L197 : ∀ (t188 e192 : Int),weirref05_token.l1 a0 a1 t188 = some e192 → e192 = v152 → ∀ (l191 : List Value) (w189 : World) (hS190 : St w0 Z (xblk b1 75 (enc_api_Token (⟨0,(⟨#[]⟩ : ByteArray),0,0,0,0,0⟩ : api_Token))::xblk b5 75 (enc_api_Token (⟨0,(⟨#[]⟩ : ByteArray),0,0,0,a1,0⟩ : api_Token))::fs) w189),Runs Tryz.prog (fx 76) td283 (fill (mk 189 [(0,.string a0),(1,.int .i64 a1),(4,.pointer (some ⟨b1,0,none⟩)),(7,.pointer (some ⟨b5,0,none⟩)),(9,.int .i64 t188)]) l191) w189 R:=by
       refine weirref05_token.l1.partial_correctness a0 a1 (fun t188 e192 => e192 = v152 → ∀ (l191 : List Value) (w189 : World) (hS190 : St w0 Z (xblk b1 75 (enc_api_Token (⟨0,(⟨#[]⟩ : ByteArray),0,0,0,0,0⟩ : api_Token))::xblk b5 75 (enc_api_Token (⟨0,(⟨#[]⟩ : ByteArray),0,0,0,a1,0⟩ : api_Token))::fs) w189),Runs Tryz.prog (fx 76) td283 (fill (mk 189 [(0,.string a0),(1,.int .i64 a1),(4,.pointer (some ⟨b1,0,none⟩)),(7,.pointer (some ⟨b5,0,none⟩)),(9,.int .i64 t188)]) l191) w189 R) ?_
       intro rec196 ih195 t188 e192 hb194 he193 l191 w189 hS190
       obtain ⟨v198,hv199,hp200⟩:=bind_some' hb194
       have hq203 : ∀ x,Sum.inr x = v198 → x = e192:=by intro x hx; subst hx; simpa using hp200
       have J204 : ∀ (he206 : Sum.inl () = v198) (l205 : List Value) (w201 : World) (hS202 : St w0 Z (xblk b1 75 (enc_api_Token (⟨0,(⟨#[]⟩ : ByteArray),0,0,0,0,0⟩ : api_Token))::xblk b5 75 (enc_api_Token (⟨0,(⟨#[]⟩ : ByteArray),0,0,0,a1,0⟩ : api_Token))::fs) w201),Runs Tryz.prog (fx 76) td286 (fill (mk 189 [(0,.string a0),(1,.int .i64 a1),(4,.pointer (some ⟨b1,0,none⟩)),(7,.pointer (some ⟨b5,0,none⟩)),(9,.int .i64 t188)]) l205) w201 R:=by
        intro he206 l205 w201 hS202
        subst he206
        try dsimp only at hp200
        refine sR 7 td282 ?_
        refine sR 1 td283 ?_
        exact rF _ (ih195 (IntKind.i64.wrap (t188 + 1)) _ hp200 he193 _ _ hS202)
       refine sI 9 (iR p76_40 6 24::td287) 85 hv199 (fun hp209 => ?_) fun hp234 => ?_
       ·refine sR 5 (iR p76_40 11 19::td287) ?_
        obtain ⟨g210,hp211⟩:=ite_some hp209
        refine rV (.index 9 (.tmp 87) (.tmp 90)) (.int .u8 (byt a0 (IntKind.i64.wrap (a1 + t188)))) (fun o ho _ => x_indexStr (kk:=.i64) (by kernel_rfl) (by kernel_rfl) (by kernel_rfl) g210.1 g210.2 ho) ?_
        obtain ⟨t212,hr213,hp214⟩:=bind_some' hp211
        refine rC (weirref05_letter.ok hr213 hS190) ?_
        rintro _ w215 ⟨rfl,hS216⟩
        refine ⟨_,rfl,?_⟩
        refine sR 1 (iR p76_40 14 16::td287) ?_
        cases t212
        ·have hp217:=ite_f hp214 rfl
         refine sR 4 (iR p76_40 18 12::td287) ?_
         obtain ⟨g218,hp219⟩:=ite_some hp217
         refine rV (.index 9 (.tmp 94) (.tmp 97)) (.int .u8 (byt a0 (IntKind.i64.wrap (a1 + t188)))) (fun o ho _ => x_indexStr (kk:=.i64) (by kernel_rfl) (by kernel_rfl) (by kernel_rfl) g218.1 g218.2 ho) ?_
         obtain ⟨t220,hr221,hp222⟩:=bind_some' hp219
         refine rC (weirref05_digit.ok hr221 hS216) ?_
         rintro _ w223 ⟨rfl,hS224⟩
         refine ⟨_,rfl,?_⟩
         refine sR 2 (iR p76_40 22 8::td287) ?_
         cases t220
         ·have hp225:=ite_f hp222 rfl
          refine sR 4 (iR p76_40 26 4::td287) ?_
          obtain ⟨g226,hp227⟩:=ite_some hp225
          refine rV (.index 9 (.tmp 102) (.tmp 105)) (.int .u8 (byt a0 (IntKind.i64.wrap (a1 + t188)))) (fun o ho _ => x_indexStr (kk:=.i64) (by kernel_rfl) (by kernel_rfl) (by kernel_rfl) g226.1 g226.2 ho) ?_
          refine sI 1 (.inRegion (opsOf p76_40) [28,29]::td287) 107 hp227 (fun hp230 => ?_) fun hp231 => ?_
          ·refine sR 5 td286 ?_
           exact rF _ (J204 (Option.some.inj hp230) _ _ hS224)
          refine sR 5 td280 ?_
          exact rF _ (J158 t188 ((hq203 _ (Option.some.inj hp231)).trans he193) _ _ hS224)
         have hp232:=ite_t hp222 rfl
         refine sR 11 td286 ?_
         exact rF _ (J204 (Option.some.inj hp232) _ _ hS224)
        have hp233:=ite_t hp214 rfl
        refine sR 19 td286 ?_
        exact rF _ (J204 (Option.some.inj hp233) _ _ hS216)
       refine sR 27 td280 ?_
       exact rF _ (J158 t188 ((hq203 _ (Option.some.inj hp234)).trans he193) _ _ hS190)
      have hS235:=hS56.pick1
      exact rF _ (L197 1 _ hv153 rfl _ _ hS235)
     refine sR 16 td250 ?_
     obtain ⟨g237,hp238⟩:=ite_some hp236
     refine rV (.index 9 (.tmp 142) (.tmp 143)) (.int .u8 (byt a0 a1)) (fun o ho _ => x_indexStr (kk:=.i64) (by kernel_rfl) (by kernel_rfl) (by kernel_rfl) g237.1 g237.2 ho) ?_
     refine sI 1 td251 145 hp238 (fun hp241 => ?_) fun hp307 => ?_
     ·refine sR 12 td255 ?_
      obtain ⟨v242,hv243,hp244⟩:=bind_some' hp241
      have J248 : ∀ (t245 : Int) (he250 : t245 = v242) (l249 : List Value) (w246 : World) (hS247 : St w0 Z (xblk b1 75 (enc_api_Token (⟨0,(⟨#[]⟩ : ByteArray),0,0,0,0,0⟩ : api_Token))::xblk b5 75 (enc_api_Token (⟨0,(⟨#[]⟩ : ByteArray),0,0,0,a1,0⟩ : api_Token))::fs) w246),Runs Tryz.prog (fx 76) td252 (fill (mk 189 [(0,.string a0),(1,.int .i64 a1),(4,.pointer (some ⟨b1,0,none⟩)),(7,.pointer (some ⟨b5,0,none⟩)),(12,.int .i64 t245)]) l249) w246 R:=by
       intro t245 he250 l249 w246 hS247
       subst he250
       try dsimp only at hp244
       refine sI 7 td258 169 hp244 (fun hp253 => ?_) fun hp259 => ?_
       ·refine sR 12 td260 ?_
        refine rSA 75 (.tmp 4) (.tmp 176) (enc_api_Token (⟨0,(⟨#[]⟩ : ByteArray),0,0,0,0,0⟩ : api_Token)) hS247 (one_api_Token _) ?_
        intro w254 hS255
        refine sR 3 td259 ?_
        refine r_isret (c:=p76_19) (by kernel_rfl) ?_
        have hS256:=hS255.drop
        have hS257:=hS256.drop
        refine rRc (.tuple #[.agg (enc_api_Token (⟨0,(⟨#[]⟩ : ByteArray),0,0,0,0,0⟩ : api_Token)).toArray,.int .i64 50,.int .i64 t245]) (.ca 4 75 (hS255.blk 0 rfl) (.tm 5 (.tm 6 .nil))) Tryz.func76 ?_
        cases hq24 _ (Option.some.inj hp253)
        exact hR _ _ ⟨rfl,hS257⟩
       refine sR 3 td261 ?_
       obtain ⟨g260,hp261⟩:=ite_some hp259
       refine rV (.index 9 (.tmp 171) (.tmp 172)) (.int .u8 (byt a0 t245)) (fun o ho _ => x_indexStr (kk:=.i64) (by kernel_rfl) (by kernel_rfl) (by kernel_rfl) g260.1 g260.2 ho) ?_
       refine sI 1 td262 174 hp261 (fun hp264 => ?_) fun hp270 => ?_
       ·refine sR 7 td260 ?_
        refine rSA 75 (.tmp 4) (.tmp 176) (enc_api_Token (⟨0,(⟨#[]⟩ : ByteArray),0,0,0,0,0⟩ : api_Token)) hS247 (one_api_Token _) ?_
        intro w265 hS266
        refine sR 3 td259 ?_
        refine r_isret (c:=p76_19) (by kernel_rfl) ?_
        have hS267:=hS266.drop
        have hS268:=hS267.drop
        refine rRc (.tuple #[.agg (enc_api_Token (⟨0,(⟨#[]⟩ : ByteArray),0,0,0,0,0⟩ : api_Token)).toArray,.int .i64 50,.int .i64 t245]) (.ca 4 75 (hS266.blk 0 rfl) (.tm 5 (.tm 6 .nil))) Tryz.func76 ?_
        cases hq24 _ (Option.some.inj hp264)
        exact hR _ _ ⟨rfl,hS268⟩
       refine sR 4 td256 ?_
       obtain ⟨g271,hp272⟩:=ite_some hp270
       have hS276:=hS247.pick1
       refine rT 25 [enc_api_Token (⟨0,(⟨#[]⟩ : ByteArray),0,0,0,a1,0⟩ : api_Token),enc_api_Token (⟨3,(⟨#[]⟩ : ByteArray),0,0,0,a1,0⟩ : api_Token),enc_api_Token (⟨3,(a0.extract (IntKind.i64.wrap (a1 + 1)).toNat t245.toNat),0,0,0,a1,0⟩ : api_Token),enc_api_Token (⟨3,(a0.extract (IntKind.i64.wrap (a1 + 1)).toNat t245.toNat),0,0,0,a1,(IntKind.i64.wrap (t245 + 1))⟩ : api_Token)] [.string a0,.int .i64 a1,.int .i64 (IntKind.i64.wrap (a1 + 1)),.int .i64 t245,.string (a0.extract (IntKind.i64.wrap (a1 + 1)).toNat t245.toNat),.int .i64 t245,.int .i64 (IntKind.i64.wrap (t245 + 1)),.pointer (some ⟨b5,0,none⟩),undef,.pointer (some ⟨b5,1,none⟩),undef,.pointer (some ⟨b5,6,none⟩),undef] 8 13 [8,10,12] [0,0,0,0,0,0,0,0,0,1,1,2,2] [1,1,1,1,1,2,2,0,1,1,2,2,3] [] [0,1,2,3,5,6,7,9,11] [4] hS276 ⟨fun _ => x_cutStr_ss (t:=9) (x:=(.tmp 178)) (lo:=(.tmp 180)) (hi:=(.tmp 181)) (k:=.i64) (k':=.i64) (by kernel_rfl) (by kernel_rfl) (by kernel_rfl) (by kernel_rfl) g271 (by kernel_rfl),trivial⟩ ⟨sT 3 (.tmp 185) (.const (.int .i64 3)) 0 (.int .i64 3) [.int .i64 3],sT 9 (.tmp 186) (.tmp 182) 1 (.string (a0.extract (IntKind.i64.wrap (a1 + 1)).toNat t245.toNat)) [.string (a0.extract (IntKind.i64.wrap (a1 + 1)).toNat t245.toNat)],sT 3 (.tmp 187) (.tmp 184) 6 (.int .i64 (IntKind.i64.wrap (t245 + 1))) [.int .i64 (IntKind.i64.wrap (t245 + 1))],trivial⟩ ?_
       intro w277 hS278
       change St w0 Z (xblk b5 75 (enc_api_Token (⟨3,(a0.extract (IntKind.i64.wrap (a1 + 1)).toNat t245.toNat),0,0,0,a1,(IntKind.i64.wrap (t245 + 1))⟩ : api_Token))::_) w277 at hS278
       refine sR 1 td246 ?_
       have hS279:=hS278.pick1
       exact rF _ (J25 (⟨3,(a0.extract (IntKind.i64.wrap (a1 + 1)).toNat t245.toNat),0,0,0,a1,(IntKind.i64.wrap (t245 + 1))⟩ : api_Token) (Option.some.inj hp272) _ _ hS279)
      have L289 : ∀ (t280 e284 : Int),weirref05_token.l2 a0 t280 = some e284 → e284 = v242 → ∀ (l283 : List Value) (w281 : World) (hS282 : St w0 Z (xblk b1 75 (enc_api_Token (⟨0,(⟨#[]⟩ : ByteArray),0,0,0,0,0⟩ : api_Token))::xblk b5 75 (enc_api_Token (⟨0,(⟨#[]⟩ : ByteArray),0,0,0,a1,0⟩ : api_Token))::fs) w281),Runs Tryz.prog (fx 76) td255 (fill (mk 189 [(0,.string a0),(1,.int .i64 a1),(4,.pointer (some ⟨b1,0,none⟩)),(7,.pointer (some ⟨b5,0,none⟩)),(12,.int .i64 t280)]) l283) w281 R:=by
       refine weirref05_token.l2.partial_correctness a0 (fun t280 e284 => e284 = v242 → ∀ (l283 : List Value) (w281 : World) (hS282 : St w0 Z (xblk b1 75 (enc_api_Token (⟨0,(⟨#[]⟩ : ByteArray),0,0,0,0,0⟩ : api_Token))::xblk b5 75 (enc_api_Token (⟨0,(⟨#[]⟩ : ByteArray),0,0,0,a1,0⟩ : api_Token))::fs) w281),Runs Tryz.prog (fx 76) td255 (fill (mk 189 [(0,.string a0),(1,.int .i64 a1),(4,.pointer (some ⟨b1,0,none⟩)),(7,.pointer (some ⟨b5,0,none⟩)),(12,.int .i64 t280)]) l283) w281 R) ?_
       intro rec288 ih287 t280 e284 hb286 he285 l283 w281 hS282
       refine sI 7 td265 151 hb286 (fun hp292 => ?_) fun hp305 => ?_
       ·refine sR 3 td266 ?_
        obtain ⟨g293,hp294⟩:=ite_some hp292
        refine rV (.index 9 (.tmp 153) (.tmp 154)) (.int .u8 (byt a0 t280)) (fun o ho _ => x_indexStr (kk:=.i64) (by kernel_rfl) (by kernel_rfl) (by kernel_rfl) g293.1 g293.2 ho) ?_
        refine sI 1 td267 156 hp294 (fun hp297 => ?_) fun hp304 => ?_
        ·refine sR 4 td268 ?_
         obtain ⟨g298,hp299⟩:=ite_some hp297
         refine rV (.index 9 (.tmp 159) (.tmp 160)) (.int .u8 (byt a0 t280)) (fun o ho _ => x_indexStr (kk:=.i64) (by kernel_rfl) (by kernel_rfl) (by kernel_rfl) g298.1 g298.2 ho) ?_
         refine sI 1 td269 162 hp299 (fun hp302 => ?_) fun hp303 => ?_
         ·refine sR 11 td254 ?_
          refine sR 1 td255 ?_
          exact rF _ (ih287 (IntKind.i64.wrap (t280 + 1)) _ hp302 he285 _ _ hS282)
         refine sR 4 td252 ?_
         exact rF _ (J248 t280 ((Option.some.inj hp303).trans he285) _ _ hS282)
        refine sR 10 td252 ?_
        exact rF _ (J248 t280 ((Option.some.inj hp304).trans he285) _ _ hS282)
       refine sR 15 td252 ?_
       exact rF _ (J248 t280 ((Option.some.inj hp305).trans he285) _ _ hS282)
      have hS306:=hS40.pick1
      exact rF _ (L289 (IntKind.i64.wrap (a1 + 1)) _ hv243 rfl _ _ hS306)
     refine sR 7 td271 ?_
     obtain ⟨t308,hr309,hp310⟩:=bind_some' hp307
     refine rC (weirref05_sign.ok hr309 hS40) ?_
     rintro _ w311 ⟨rfl,hS312⟩
     refine ⟨_,rfl,?_⟩
     refine sI 7 td274 20 hp310 (fun hp315 => ?_) fun hp322 => ?_
     ·refine sR 6 td276 ?_
      have hS316:=hS312.pick1
      refine rSA 75 (.tmp 4) (.tmp 21) (enc_api_Token (⟨0,(⟨#[]⟩ : ByteArray),0,0,0,0,0⟩ : api_Token)) hS316 (one_api_Token _) ?_
      intro w317 hS318
      refine sR 3 td275 ?_
      refine r_isret (c:=p76_29) (by kernel_rfl) ?_
      have hS319:=hS318.drop
      have hS320:=hS319.drop
      refine rRc (.tuple #[.agg (enc_api_Token (⟨0,(⟨#[]⟩ : ByteArray),0,0,0,0,0⟩ : api_Token)).toArray,.int .i64 50,.int .i64 a1]) (.ca 4 75 (hS318.blk 0 rfl) (.tm 5 (.tm 6 .nil))) Tryz.func76 ?_
      cases hq24 _ (Option.some.inj hp315)
      exact hR _ _ ⟨rfl,hS320⟩
     refine sR 10 td277 ?_
     refine rS 3 (.tmp 28) (.const (.int .i64 4)) 0 (.int .i64 4) [.int .i64 4] (enc_api_Token (⟨4,(⟨#[]⟩ : ByteArray),0,0,0,a1,0⟩ : api_Token)) hS312 ?_
     intro w323 hS324
     refine sR 1 td278 ?_
     refine rS 9 (.tmp 29) (.tmp 23) 1 (.string t308) [.string t308] (enc_api_Token (⟨4,t308,0,0,0,a1,0⟩ : api_Token)) hS324 ?_
     intro w325 hS326
     refine sR 1 td279 ?_
     refine rS 3 (.tmp 30) (.tmp 27) 6 (.int .i64 (IntKind.i64.wrap (a1 + (t308.size : Int)))) [.int .i64 (IntKind.i64.wrap (a1 + (t308.size : Int)))] (enc_api_Token (⟨4,t308,0,0,0,a1,(IntKind.i64.wrap (a1 + (t308.size : Int)))⟩ : api_Token)) hS326 ?_
     intro w327 hS328
     refine sR 2 td246 ?_
     have hS329:=hS328.pick1
     exact rF _ (J25 (⟨4,t308,0,0,0,a1,(IntKind.i64.wrap (a1 + (t308.size : Int)))⟩ : api_Token) (Option.some.inj hp322) _ _ hS329)
    refine sR 22 td250 ?_
    obtain ⟨g331,hp332⟩:=ite_some hp330
    refine rV (.index 9 (.tmp 142) (.tmp 143)) (.int .u8 (byt a0 a1)) (fun o ho _ => x_indexStr (kk:=.i64) (by kernel_rfl) (by kernel_rfl) (by kernel_rfl) g331.1 g331.2 ho) ?_
    refine sI 1 td251 145 hp332 (fun hp335 => ?_) fun hp401 => ?_
    ·refine sR 12 td255 ?_
     obtain ⟨v336,hv337,hp338⟩:=bind_some' hp335
     have J342 : ∀ (t339 : Int) (he344 : t339 = v336) (l343 : List Value) (w340 : World) (hS341 : St w0 Z (xblk b1 75 (enc_api_Token (⟨0,(⟨#[]⟩ : ByteArray),0,0,0,0,0⟩ : api_Token))::xblk b5 75 (enc_api_Token (⟨0,(⟨#[]⟩ : ByteArray),0,0,0,a1,0⟩ : api_Token))::fs) w340),Runs Tryz.prog (fx 76) td252 (fill (mk 189 [(0,.string a0),(1,.int .i64 a1),(4,.pointer (some ⟨b1,0,none⟩)),(7,.pointer (some ⟨b5,0,none⟩)),(12,.int .i64 t339)]) l343) w340 R:=by
      intro t339 he344 l343 w340 hS341
      subst he344
      try dsimp only at hp338
      refine sI 7 td258 169 hp338 (fun hp347 => ?_) fun hp353 => ?_
      ·refine sR 12 td260 ?_
       refine rSA 75 (.tmp 4) (.tmp 176) (enc_api_Token (⟨0,(⟨#[]⟩ : ByteArray),0,0,0,0,0⟩ : api_Token)) hS341 (one_api_Token _) ?_
       intro w348 hS349
       refine sR 3 td259 ?_
       refine r_isret (c:=p76_19) (by kernel_rfl) ?_
       have hS350:=hS349.drop
       have hS351:=hS350.drop
       refine rRc (.tuple #[.agg (enc_api_Token (⟨0,(⟨#[]⟩ : ByteArray),0,0,0,0,0⟩ : api_Token)).toArray,.int .i64 50,.int .i64 t339]) (.ca 4 75 (hS349.blk 0 rfl) (.tm 5 (.tm 6 .nil))) Tryz.func76 ?_
       cases hq24 _ (Option.some.inj hp347)
       exact hR _ _ ⟨rfl,hS351⟩
      refine sR 3 td261 ?_
      obtain ⟨g354,hp355⟩:=ite_some hp353
      refine rV (.index 9 (.tmp 171) (.tmp 172)) (.int .u8 (byt a0 t339)) (fun o ho _ => x_indexStr (kk:=.i64) (by kernel_rfl) (by kernel_rfl) (by kernel_rfl) g354.1 g354.2 ho) ?_
      refine sI 1 td262 174 hp355 (fun hp358 => ?_) fun hp364 => ?_
      ·refine sR 7 td260 ?_
       refine rSA 75 (.tmp 4) (.tmp 176) (enc_api_Token (⟨0,(⟨#[]⟩ : ByteArray),0,0,0,0,0⟩ : api_Token)) hS341 (one_api_Token _) ?_
       intro w359 hS360
       refine sR 3 td259 ?_
       refine r_isret (c:=p76_19) (by kernel_rfl) ?_
       have hS361:=hS360.drop
       have hS362:=hS361.drop
       refine rRc (.tuple #[.agg (enc_api_Token (⟨0,(⟨#[]⟩ : ByteArray),0,0,0,0,0⟩ : api_Token)).toArray,.int .i64 50,.int .i64 t339]) (.ca 4 75 (hS360.blk 0 rfl) (.tm 5 (.tm 6 .nil))) Tryz.func76 ?_
       cases hq24 _ (Option.some.inj hp358)
       exact hR _ _ ⟨rfl,hS362⟩
      refine sR 4 td256 ?_
      obtain ⟨g365,hp366⟩:=ite_some hp364
      have hS370:=hS341.pick1
      refine rT 25 [enc_api_Token (⟨0,(⟨#[]⟩ : ByteArray),0,0,0,a1,0⟩ : api_Token),enc_api_Token (⟨3,(⟨#[]⟩ : ByteArray),0,0,0,a1,0⟩ : api_Token),enc_api_Token (⟨3,(a0.extract (IntKind.i64.wrap (a1 + 1)).toNat t339.toNat),0,0,0,a1,0⟩ : api_Token),enc_api_Token (⟨3,(a0.extract (IntKind.i64.wrap (a1 + 1)).toNat t339.toNat),0,0,0,a1,(IntKind.i64.wrap (t339 + 1))⟩ : api_Token)] [.string a0,.int .i64 a1,.int .i64 (IntKind.i64.wrap (a1 + 1)),.int .i64 t339,.string (a0.extract (IntKind.i64.wrap (a1 + 1)).toNat t339.toNat),.int .i64 t339,.int .i64 (IntKind.i64.wrap (t339 + 1)),.pointer (some ⟨b5,0,none⟩),undef,.pointer (some ⟨b5,1,none⟩),undef,.pointer (some ⟨b5,6,none⟩),undef] 8 13 [8,10,12] [0,0,0,0,0,0,0,0,0,1,1,2,2] [1,1,1,1,1,2,2,0,1,1,2,2,3] [] [0,1,2,3,5,6,7,9,11] [4] hS370 ⟨fun _ => x_cutStr_ss (t:=9) (x:=(.tmp 178)) (lo:=(.tmp 180)) (hi:=(.tmp 181)) (k:=.i64) (k':=.i64) (by kernel_rfl) (by kernel_rfl) (by kernel_rfl) (by kernel_rfl) g365 (by kernel_rfl),trivial⟩ ⟨sT 3 (.tmp 185) (.const (.int .i64 3)) 0 (.int .i64 3) [.int .i64 3],sT 9 (.tmp 186) (.tmp 182) 1 (.string (a0.extract (IntKind.i64.wrap (a1 + 1)).toNat t339.toNat)) [.string (a0.extract (IntKind.i64.wrap (a1 + 1)).toNat t339.toNat)],sT 3 (.tmp 187) (.tmp 184) 6 (.int .i64 (IntKind.i64.wrap (t339 + 1))) [.int .i64 (IntKind.i64.wrap (t339 + 1))],trivial⟩ ?_
      intro w371 hS372
      change St w0 Z (xblk b5 75 (enc_api_Token (⟨3,(a0.extract (IntKind.i64.wrap (a1 + 1)).toNat t339.toNat),0,0,0,a1,(IntKind.i64.wrap (t339 + 1))⟩ : api_Token))::_) w371 at hS372
      refine sR 1 td246 ?_
      have hS373:=hS372.pick1
      exact rF _ (J25 (⟨3,(a0.extract (IntKind.i64.wrap (a1 + 1)).toNat t339.toNat),0,0,0,a1,(IntKind.i64.wrap (t339 + 1))⟩ : api_Token) (Option.some.inj hp366) _ _ hS373)
     have L383 : ∀ (t374 e378 : Int),weirref05_token.l3 a0 t374 = some e378 → e378 = v336 → ∀ (l377 : List Value) (w375 : World) (hS376 : St w0 Z (xblk b1 75 (enc_api_Token (⟨0,(⟨#[]⟩ : ByteArray),0,0,0,0,0⟩ : api_Token))::xblk b5 75 (enc_api_Token (⟨0,(⟨#[]⟩ : ByteArray),0,0,0,a1,0⟩ : api_Token))::fs) w375),Runs Tryz.prog (fx 76) td255 (fill (mk 189 [(0,.string a0),(1,.int .i64 a1),(4,.pointer (some ⟨b1,0,none⟩)),(7,.pointer (some ⟨b5,0,none⟩)),(12,.int .i64 t374)]) l377) w375 R:=by
      refine weirref05_token.l3.partial_correctness a0 (fun t374 e378 => e378 = v336 → ∀ (l377 : List Value) (w375 : World) (hS376 : St w0 Z (xblk b1 75 (enc_api_Token (⟨0,(⟨#[]⟩ : ByteArray),0,0,0,0,0⟩ : api_Token))::xblk b5 75 (enc_api_Token (⟨0,(⟨#[]⟩ : ByteArray),0,0,0,a1,0⟩ : api_Token))::fs) w375),Runs Tryz.prog (fx 76) td255 (fill (mk 189 [(0,.string a0),(1,.int .i64 a1),(4,.pointer (some ⟨b1,0,none⟩)),(7,.pointer (some ⟨b5,0,none⟩)),(12,.int .i64 t374)]) l377) w375 R) ?_
      intro rec382 ih381 t374 e378 hb380 he379 l377 w375 hS376
      refine sI 7 td265 151 hb380 (fun hp386 => ?_) fun hp399 => ?_
      ·refine sR 3 td266 ?_
       obtain ⟨g387,hp388⟩:=ite_some hp386
       refine rV (.index 9 (.tmp 153) (.tmp 154)) (.int .u8 (byt a0 t374)) (fun o ho _ => x_indexStr (kk:=.i64) (by kernel_rfl) (by kernel_rfl) (by kernel_rfl) g387.1 g387.2 ho) ?_
       refine sI 1 td267 156 hp388 (fun hp391 => ?_) fun hp398 => ?_
       ·refine sR 4 td268 ?_
        obtain ⟨g392,hp393⟩:=ite_some hp391
        refine rV (.index 9 (.tmp 159) (.tmp 160)) (.int .u8 (byt a0 t374)) (fun o ho _ => x_indexStr (kk:=.i64) (by kernel_rfl) (by kernel_rfl) (by kernel_rfl) g392.1 g392.2 ho) ?_
        refine sI 1 td269 162 hp393 (fun hp396 => ?_) fun hp397 => ?_
        ·refine sR 11 td254 ?_
         refine sR 1 td255 ?_
         exact rF _ (ih381 (IntKind.i64.wrap (t374 + 1)) _ hp396 he379 _ _ hS376)
        refine sR 4 td252 ?_
        exact rF _ (J342 t374 ((Option.some.inj hp397).trans he379) _ _ hS376)
       refine sR 10 td252 ?_
       exact rF _ (J342 t374 ((Option.some.inj hp398).trans he379) _ _ hS376)
      refine sR 15 td252 ?_
      exact rF _ (J342 t374 ((Option.some.inj hp399).trans he379) _ _ hS376)
     have hS400:=hS40.pick1
     exact rF _ (L383 (IntKind.i64.wrap (a1 + 1)) _ hv337 rfl _ _ hS400)
    refine sR 7 td271 ?_
    obtain ⟨t402,hr403,hp404⟩:=bind_some' hp401
    refine rC (weirref05_sign.ok hr403 hS40) ?_
    rintro _ w405 ⟨rfl,hS406⟩
    refine ⟨_,rfl,?_⟩
    refine sI 7 td274 20 hp404 (fun hp409 => ?_) fun hp416 => ?_
    ·refine sR 6 td276 ?_
     have hS410:=hS406.pick1
     refine rSA 75 (.tmp 4) (.tmp 21) (enc_api_Token (⟨0,(⟨#[]⟩ : ByteArray),0,0,0,0,0⟩ : api_Token)) hS410 (one_api_Token _) ?_
     intro w411 hS412
     refine sR 3 td275 ?_
     refine r_isret (c:=p76_29) (by kernel_rfl) ?_
     have hS413:=hS412.drop
     have hS414:=hS413.drop
     refine rRc (.tuple #[.agg (enc_api_Token (⟨0,(⟨#[]⟩ : ByteArray),0,0,0,0,0⟩ : api_Token)).toArray,.int .i64 50,.int .i64 a1]) (.ca 4 75 (hS412.blk 0 rfl) (.tm 5 (.tm 6 .nil))) Tryz.func76 ?_
     cases hq24 _ (Option.some.inj hp409)
     exact hR _ _ ⟨rfl,hS414⟩
    refine sR 10 td277 ?_
    refine rS 3 (.tmp 28) (.const (.int .i64 4)) 0 (.int .i64 4) [.int .i64 4] (enc_api_Token (⟨4,(⟨#[]⟩ : ByteArray),0,0,0,a1,0⟩ : api_Token)) hS406 ?_
    intro w417 hS418
    refine sR 1 td278 ?_
    refine rS 9 (.tmp 29) (.tmp 23) 1 (.string t402) [.string t402] (enc_api_Token (⟨4,t402,0,0,0,a1,0⟩ : api_Token)) hS418 ?_
    intro w419 hS420
    refine sR 1 td279 ?_
    refine rS 3 (.tmp 30) (.tmp 27) 6 (.int .i64 (IntKind.i64.wrap (a1 + (t402.size : Int)))) [.int .i64 (IntKind.i64.wrap (a1 + (t402.size : Int)))] (enc_api_Token (⟨4,t402,0,0,0,a1,(IntKind.i64.wrap (a1 + (t402.size : Int)))⟩ : api_Token)) hS420 ?_
    intro w421 hS422
    refine sR 2 td246 ?_
    have hS423:=hS422.pick1
    exact rF _ (J25 (⟨4,t402,0,0,0,a1,(IntKind.i64.wrap (a1 + (t402.size : Int)))⟩ : api_Token) (Option.some.inj hp416) _ _ hS423)
   have hp424:=ite_t hp38 rfl
   refine sR 29 td283 ?_
   obtain ⟨v425,hv426,hp427⟩:=bind_some' hp424
   have J431 : ∀ (t428 : Int) (he433 : t428 = v425) (l432 : List Value) (w429 : World) (hS430 : St w0 Z (xblk b1 75 (enc_api_Token (⟨0,(⟨#[]⟩ : ByteArray),0,0,0,0,0⟩ : api_Token))::xblk b5 75 (enc_api_Token (⟨0,(⟨#[]⟩ : ByteArray),0,0,0,a1,0⟩ : api_Token))::fs) w429),Runs Tryz.prog (fx 76) td280 (fill (mk 189 [(0,.string a0),(1,.int .i64 a1),(4,.pointer (some ⟨b1,0,none⟩)),(7,.pointer (some ⟨b5,0,none⟩)),(9,.int .i64 t428)]) l432) w429 R:=by
    intro t428 he433 l432 w429 hS430
    subst he433
    try dsimp only at hp427
    refine sR 7 (iR p76_32 5 7::.code p76_33::td247) ?_
    obtain ⟨g434,hp435⟩:=ite_some hp427
    refine rV (.slice 9 (.tmp 113) (some (.tmp 114)) (some (.tmp 117)) none) (.string (a0.extract a1.toNat (IntKind.i64.wrap (a1 + t428)).toNat)) (fun o ho _ => x_cutStr_ss (k:=.i64) (k':=.i64) (by kernel_rfl) (by kernel_rfl) (by kernel_rfl) (by kernel_rfl) g434 ho) ?_
    obtain ⟨⟨t436,t437⟩,hr438,hp439⟩:=bind_some' hp435
    try dsimp only at hp439
    refine rC (weirref04_Parse.ok hr438 hS430) ?_
    rintro _ w440 ⟨rfl,hS441⟩
    refine ⟨_,rfl,?_⟩
    refine sI 11 (.inRegion (opsOf p76_34) []::.code p76_35::td284) 123 hp439 (fun hp444 => ?_) fun hp450 => ?_
    ·refine sR 7 (.inRegion (opsOf p76_37) [3,4,5]::td285) ?_
     refine rSA 75 (.tmp 4) (.tmp 124) (enc_api_Token (⟨0,(⟨#[]⟩ : ByteArray),0,0,0,0,0⟩ : api_Token)) hS441 (one_api_Token _) ?_
     intro w445 hS446
     refine sR 3 td285 ?_
     refine r_isret (c:=p76_38) (by kernel_rfl) ?_
     have hS447:=hS446.drop
     have hS448:=hS447.drop
     refine rRc (.tuple #[.agg (enc_api_Token (⟨0,(⟨#[]⟩ : ByteArray),0,0,0,0,0⟩ : api_Token)).toArray,.int .i64 t437,.int .i64 a1]) (.ca 4 75 (hS446.blk 0 rfl) (.tm 5 (.tm 6 .nil))) Tryz.func76 ?_
     cases hq24 _ (Option.some.inj hp444)
     exact hR _ _ ⟨rfl,hS448⟩
    refine sR 3 td284 ?_
    obtain ⟨g451,hp452⟩:=ite_some hp450
    have hS457:=hS441.pick1
    refine rT 18 [enc_api_Token (⟨0,(⟨#[]⟩ : ByteArray),0,0,0,a1,0⟩ : api_Token),enc_api_Token (⟨2,(⟨#[]⟩ : ByteArray),0,0,0,a1,0⟩ : api_Token),enc_api_Token (⟨2,(a0.extract a1.toNat (IntKind.i64.wrap (a1 + t428)).toNat),0,0,0,a1,0⟩ : api_Token),enc_api_Token (⟨2,(a0.extract a1.toNat (IntKind.i64.wrap (a1 + t428)).toNat),t436,0,0,a1,0⟩ : api_Token),enc_api_Token (⟨2,(a0.extract a1.toNat (IntKind.i64.wrap (a1 + t428)).toNat),t436,0,0,a1,(IntKind.i64.wrap (a1 + t428))⟩ : api_Token)] [.string a0,.int .i64 a1,.int .i64 a1,.int .i64 t428,.int .i64 (IntKind.i64.wrap (a1 + t428)),.string (a0.extract a1.toNat (IntKind.i64.wrap (a1 + t428)).toNat),.int .i64 t436,.int .i64 a1,.int .i64 t428,.int .i64 (IntKind.i64.wrap (a1 + t428)),.pointer (some ⟨b5,0,none⟩),undef,.pointer (some ⟨b5,1,none⟩),undef,.pointer (some ⟨b5,2,none⟩),undef,.pointer (some ⟨b5,6,none⟩),undef] 11 18 [11,13,15,17] [0,0,0,0,0,0,0,0,0,0,0,0,1,1,2,2,3,3] [1,1,1,1,1,1,2,3,3,3,0,1,1,2,2,3,3,4] [] [0,1,2,3,4,6,7,8,9,10,12,14,16] [5] hS457 ⟨fun _ => x_cutStr_ss (t:=9) (x:=(.tmp 127)) (lo:=(.tmp 128)) (hi:=(.tmp 131)) (k:=.i64) (k':=.i64) (by kernel_rfl) (by kernel_rfl) (by kernel_rfl) (by kernel_rfl) g451 (by kernel_rfl),trivial⟩ ⟨sT 3 (.tmp 137) (.const (.int .i64 2)) 0 (.int .i64 2) [.int .i64 2],sT 9 (.tmp 138) (.tmp 132) 1 (.string (a0.extract a1.toNat (IntKind.i64.wrap (a1 + t428)).toNat)) [.string (a0.extract a1.toNat (IntKind.i64.wrap (a1 + t428)).toNat)],sT 2 (.tmp 139) (.tmp 133) 2 (.int .i64 t436) [.int .i64 t436],sT 3 (.tmp 140) (.tmp 136) 6 (.int .i64 (IntKind.i64.wrap (a1 + t428))) [.int .i64 (IntKind.i64.wrap (a1 + t428))],trivial⟩ ?_
    intro w458 hS459
    change St w0 Z (xblk b5 75 (enc_api_Token (⟨2,(a0.extract a1.toNat (IntKind.i64.wrap (a1 + t428)).toNat),t436,0,0,a1,(IntKind.i64.wrap (a1 + t428))⟩ : api_Token))::_) w458 at hS459
    refine sR 1 td246 ?_
    have hS460:=hS459.pick1
    exact rF _ (J25 (⟨2,(a0.extract a1.toNat (IntKind.i64.wrap (a1 + t428)).toNat),t436,0,0,a1,(IntKind.i64.wrap (a1 + t428))⟩ : api_Token) (Option.some.inj hp452) _ _ hS460)
   have L470 : ∀ (t461 e465 : Int),weirref05_token.l4 a0 a1 t461 = some e465 → e465 = v425 → ∀ (l464 : List Value) (w462 : World) (hS463 : St w0 Z (xblk b1 75 (enc_api_Token (⟨0,(⟨#[]⟩ : ByteArray),0,0,0,0,0⟩ : api_Token))::xblk b5 75 (enc_api_Token (⟨0,(⟨#[]⟩ : ByteArray),0,0,0,a1,0⟩ : api_Token))::fs) w462),Runs Tryz.prog (fx 76) td283 (fill (mk 189 [(0,.string a0),(1,.int .i64 a1),(4,.pointer (some ⟨b1,0,none⟩)),(7,.pointer (some ⟨b5,0,none⟩)),(9,.int .i64 t461)]) l464) w462 R:=by
    refine weirref05_token.l4.partial_correctness a0 a1 (fun t461 e465 => e465 = v425 → ∀ (l464 : List Value) (w462 : World) (hS463 : St w0 Z (xblk b1 75 (enc_api_Token (⟨0,(⟨#[]⟩ : ByteArray),0,0,0,0,0⟩ : api_Token))::xblk b5 75 (enc_api_Token (⟨0,(⟨#[]⟩ : ByteArray),0,0,0,a1,0⟩ : api_Token))::fs) w462),Runs Tryz.prog (fx 76) td283 (fill (mk 189 [(0,.string a0),(1,.int .i64 a1),(4,.pointer (some ⟨b1,0,none⟩)),(7,.pointer (some ⟨b5,0,none⟩)),(9,.int .i64 t461)]) l464) w462 R) ?_
    intro rec469 ih468 t461 e465 hb467 he466 l464 w462 hS463
    obtain ⟨v471,hv472,hp473⟩:=bind_some' hb467
    have hq476 : ∀ x,Sum.inr x = v471 → x = e465:=by intro x hx; subst hx; simpa using hp473
    have J477 : ∀ (he479 : Sum.inl () = v471) (l478 : List Value) (w474 : World) (hS475 : St w0 Z (xblk b1 75 (enc_api_Token (⟨0,(⟨#[]⟩ : ByteArray),0,0,0,0,0⟩ : api_Token))::xblk b5 75 (enc_api_Token (⟨0,(⟨#[]⟩ : ByteArray),0,0,0,a1,0⟩ : api_Token))::fs) w474),Runs Tryz.prog (fx 76) td286 (fill (mk 189 [(0,.string a0),(1,.int .i64 a1),(4,.pointer (some ⟨b1,0,none⟩)),(7,.pointer (some ⟨b5,0,none⟩)),(9,.int .i64 t461)]) l478) w474 R:=by
     intro he479 l478 w474 hS475
     subst he479
     try dsimp only at hp473
     refine sR 7 td282 ?_
     refine sR 1 td283 ?_
     exact rF _ (ih468 (IntKind.i64.wrap (t461 + 1)) _ hp473 he466 _ _ hS475)
    refine sI 9 (iR p76_40 6 24::td287) 85 hv472 (fun hp482 => ?_) fun hp507 => ?_
    ·refine sR 5 (iR p76_40 11 19::td287) ?_
     obtain ⟨g483,hp484⟩:=ite_some hp482
     refine rV (.index 9 (.tmp 87) (.tmp 90)) (.int .u8 (byt a0 (IntKind.i64.wrap (a1 + t461)))) (fun o ho _ => x_indexStr (kk:=.i64) (by kernel_rfl) (by kernel_rfl) (by kernel_rfl) g483.1 g483.2 ho) ?_
     obtain ⟨t485,hr486,hp487⟩:=bind_some' hp484
     refine rC (weirref05_letter.ok hr486 hS463) ?_
     rintro _ w488 ⟨rfl,hS489⟩
     refine ⟨_,rfl,?_⟩
     refine sR 1 (iR p76_40 14 16::td287) ?_
     cases t485
     ·have hp490:=ite_f hp487 rfl
      refine sR 4 (iR p76_40 18 12::td287) ?_
      obtain ⟨g491,hp492⟩:=ite_some hp490
      refine rV (.index 9 (.tmp 94) (.tmp 97)) (.int .u8 (byt a0 (IntKind.i64.wrap (a1 + t461)))) (fun o ho _ => x_indexStr (kk:=.i64) (by kernel_rfl) (by kernel_rfl) (by kernel_rfl) g491.1 g491.2 ho) ?_
      obtain ⟨t493,hr494,hp495⟩:=bind_some' hp492
      refine rC (weirref05_digit.ok hr494 hS489) ?_
      rintro _ w496 ⟨rfl,hS497⟩
      refine ⟨_,rfl,?_⟩
      refine sR 2 (iR p76_40 22 8::td287) ?_
      cases t493
      ·have hp498:=ite_f hp495 rfl
       refine sR 4 (iR p76_40 26 4::td287) ?_
       obtain ⟨g499,hp500⟩:=ite_some hp498
       refine rV (.index 9 (.tmp 102) (.tmp 105)) (.int .u8 (byt a0 (IntKind.i64.wrap (a1 + t461)))) (fun o ho _ => x_indexStr (kk:=.i64) (by kernel_rfl) (by kernel_rfl) (by kernel_rfl) g499.1 g499.2 ho) ?_
       refine sI 1 (.inRegion (opsOf p76_40) [28,29]::td287) 107 hp500 (fun hp503 => ?_) fun hp504 => ?_
       ·refine sR 5 td286 ?_
        exact rF _ (J477 (Option.some.inj hp503) _ _ hS497)
       refine sR 5 td280 ?_
       exact rF _ (J431 t461 ((hq476 _ (Option.some.inj hp504)).trans he466) _ _ hS497)
      have hp505:=ite_t hp495 rfl
      refine sR 11 td286 ?_
      exact rF _ (J477 (Option.some.inj hp505) _ _ hS497)
     have hp506:=ite_t hp487 rfl
     refine sR 19 td286 ?_
     exact rF _ (J477 (Option.some.inj hp506) _ _ hS489)
    refine sR 27 td280 ?_
    exact rF _ (J431 t461 ((hq476 _ (Option.some.inj hp507)).trans he466) _ _ hS463)
   have hS508:=hS40.pick1
   exact rF _ (L470 1 _ hv426 rfl _ _ hS508)
  have hp509:=ite_t hv19 rfl
  refine sR 5 (.inRegion (opsOf (cd76 [1,1,0,0,1,0,0])) [2,3]::.code (cd76 [1,1,0,0,1,0,1])::td247) ?_
  obtain ⟨t510,hr511,hp512⟩:=bind_some' hp509
  refine rC (weirref05_name.ok hr511 hS17) ?_
  rintro _ w513 ⟨rfl,hS514⟩
  refine ⟨_,rfl,?_⟩
  refine sI 7 (.inRegion (opsOf (cd76 [1,1,0,0,1,0,1,0,0])) []::.code (cd76 [1,1,0,0,1,0,1,0,1])::td288) 40 hp512 (fun hp517 => ?_) fun hp524 => ?_
  ·refine sR 6 (.inRegion (opsOf (cd76 [1,1,0,0,1,0,1,0,1,0,0])) [2,3,4]::.code p76_48::td288) ?_
   have hS518:=hS514.pick1
   refine rSA 75 (.tmp 4) (.tmp 41) (enc_api_Token (⟨0,(⟨#[]⟩ : ByteArray),0,0,0,0,0⟩ : api_Token)) hS518 (one_api_Token _) ?_
   intro w519 hS520
   refine sR 3 (.code p76_48::td288) ?_
   have hS521:=hS520.drop
   have hS522:=hS521.drop
   refine rRc (.tuple #[.agg (enc_api_Token (⟨0,(⟨#[]⟩ : ByteArray),0,0,0,0,0⟩ : api_Token)).toArray,.int .i64 1,.int .i64 a1]) (.ca 4 75 (hS520.blk 0 rfl) (.tm 5 (.tm 6 .nil))) Tryz.func76 ?_
   cases hq24 _ (Option.some.inj hp517)
   exact hR _ _ ⟨rfl,hS522⟩
  refine sR 3 td288 ?_
  obtain ⟨g525,hp526⟩:=ite_some hp524
  refine rT 10 [enc_api_Token (⟨0,(⟨#[]⟩ : ByteArray),0,0,0,a1,0⟩ : api_Token),enc_api_Token (⟨1,(⟨#[]⟩ : ByteArray),0,0,0,a1,0⟩ : api_Token),enc_api_Token (⟨1,(a0.extract a1.toNat (IntKind.i64.wrap (a1 + t510)).toNat),0,0,0,a1,0⟩ : api_Token),enc_api_Token (⟨1,(a0.extract a1.toNat (IntKind.i64.wrap (a1 + t510)).toNat),0,0,0,a1,(IntKind.i64.wrap (a1 + t510))⟩ : api_Token)] [.string a0,.int .i64 a1,.int .i64 a1,.int .i64 t510,.int .i64 (IntKind.i64.wrap (a1 + t510)),.string (a0.extract a1.toNat (IntKind.i64.wrap (a1 + t510)).toNat),.int .i64 a1,.int .i64 t510,.int .i64 (IntKind.i64.wrap (a1 + t510)),.pointer (some ⟨b5,0,none⟩),undef,.pointer (some ⟨b5,1,none⟩),undef,.pointer (some ⟨b5,6,none⟩),undef] 10 15 [10,12,14] [0,0,0,0,0,0,0,0,0,0,0,1,1,2,2] [1,1,1,1,1,1,2,2,2,0,1,1,2,2,3] [] [0,1,2,3,4,6,7,8,9,11,13] [5] hS514 ⟨fun _ => x_cutStr_ss (t:=9) (x:=(.tmp 43)) (lo:=(.tmp 44)) (hi:=(.tmp 47)) (k:=.i64) (k':=.i64) (by kernel_rfl) (by kernel_rfl) (by kernel_rfl) (by kernel_rfl) g525 (by kernel_rfl),trivial⟩ ⟨sT 3 (.tmp 52) (.const (.int .i64 1)) 0 (.int .i64 1) [.int .i64 1],sT 9 (.tmp 53) (.tmp 48) 1 (.string (a0.extract a1.toNat (IntKind.i64.wrap (a1 + t510)).toNat)) [.string (a0.extract a1.toNat (IntKind.i64.wrap (a1 + t510)).toNat)],sT 3 (.tmp 54) (.tmp 51) 6 (.int .i64 (IntKind.i64.wrap (a1 + t510))) [.int .i64 (IntKind.i64.wrap (a1 + t510))],trivial⟩ ?_
  intro w530 hS531
  change St w0 Z (xblk b5 75 (enc_api_Token (⟨1,(a0.extract a1.toNat (IntKind.i64.wrap (a1 + t510)).toNat),0,0,0,a1,(IntKind.i64.wrap (a1 + t510))⟩ : api_Token))::_) w530 at hS531
  refine sR 1 td246 ?_
  have hS532:=hS531.pick1
  exact rF _ (J25 (⟨1,(a0.extract a1.toNat (IntKind.i64.wrap (a1 + t510)).toNat),0,0,0,a1,(IntKind.i64.wrap (a1 + t510))⟩ : api_Token) (Option.some.inj hp526) _ _ hS532)

noncomputable def cd77 (p : List Nat) : Code := sub (bodyOf Tryz.f77) p
abbrev p77_9:=cd77 [1,0,0,0,1,0,1,0,0]
abbrev p77_11:=cd77 [1,0,0,0,1,0,1,1]
abbrev p77_12:=cd77 [1,0,0,0,1,0,1,0,1,0,0]
abbrev p77_13:=cd77 [1,0,0,0,1,0,1,0,1,0,1]
abbrev td289:List Item:=[.code (cd77 [1,1])]
abbrev td290:List Item:=.inBlock 0::td289
abbrev td291:List Item:=.inLoop (cd77 [1,0,0,0])::td290
abbrev td292:List Item:=.code (cd77 [1,0,0,0])::td291
abbrev td293:List Item:=.inBlock 1::td291
abbrev td294:List Item:=.code p77_11::td293
def weirref05_Lexer__place.l0 (a1 : Int) (t13 : weirref05_Lexer) : Option weirref05_Lexer :=
  (if (decide (t13.from_ < a1)) = true then (if 0 ≤ t13.from_ ∧ t13.from_ < (t13.S.size : Int) then (if ((byt t13.S t13.from_) == 10) = true then (weirref05_Lexer__place.l0 a1 (⟨t13.S,t13.At,t13.F,(IntKind.i64.wrap (t13.from_ + 1)),(IntKind.i64.wrap (t13.line + 1)),1⟩ : weirref05_Lexer)) else (weirref05_Lexer__place.l0 a1 (⟨t13.S,t13.At,t13.F,(IntKind.i64.wrap (t13.from_ + 1)),t13.line,(IntKind.i64.wrap (t13.col + 1))⟩ : weirref05_Lexer))) else none) else some (t13))
 partial_fixpoint
def weirref05_Lexer__place.f (a0v : weirref05_Lexer) (a1 : Int) : Option (Int × Int × weirref05_Lexer) :=
  (weirref05_Lexer__place.l0 a1 a0v >>= (fun t4 => some ((t4.line,t4.col,t4))))
theorem weirref05_Lexer__place.ok {a0v : weirref05_Lexer} {a1 : Int} {ba0 : Nat} {q0 q1 : Int} {q2 : weirref05_Lexer} (hp0 : weirref05_Lexer__place.f a0v a1 = some (q0,q1,q2)) (hS0 : St w0 Z (xblk ba0 156 (enc_weirref05_Lexer a0v)::fs) w) :
    Calls Tryz.prog 77 #[.pointer (some ⟨ba0,0,none⟩),.int .i64 a1] w (fun e w' => e = .returned (.tuple #[.int .i64 q0,.int .i64 q1]) ∧ St w0 Z (xblk ba0 156 (enc_weirref05_Lexer q2)::fs) w'):=by
  refine calls_abs ?_; intro R hR
  unfold weirref05_Lexer__place.f at hp0
  refine calls_of_runs (fn:=Tryz.f77) (c:=cd77 []) Tryz.func77 (by kernel_rfl) (al:=[.pointer (some ⟨ba0,0,none⟩),.int .i64 a1]) rfl (n:=52) rfl ?_
  refine sR 8 td292 ?_
  obtain ⟨v1,hv2,hp3⟩:=bind_some' hp0
  have J7 : ∀ (t4 : weirref05_Lexer) (he9 : t4 = v1) (l8 : List Value) (w5 : World) (hS6 : St w0 Z (xblk ba0 156 (enc_weirref05_Lexer t4)::fs) w5),Runs Tryz.prog (fx 77) td289 (fill (mk 54 [(0,.pointer (some ⟨ba0,0,none⟩))]) l8) w5 R:=by
   intro t4 he9 l8 w5 hS6
   subst he9
   try dsimp only at hp3
   refine sR 1 [.code (cd77 [1,1,0]),.code (cd77 [1,1,1])] ?_
   refine r_quiet hS6 (c:=(cd77 [1,1,0])) (id:=7) (by kernel_rfl) (by kernel_rfl) (by kernel_rfl) (is:=[0,1,2,3,4,5,6,7,8,9]) (by kernel_rfl) ?_
   refine qR 3 (rg 3 7) ?_
   refine qL1 3 (.tmp 48) 6 (fun w hC => (hC.blk 0 rfl)) ?_
   refine qR 3 [7,8,9] ?_
   refine qL1 3 (.tmp 52) 7 (fun w hC => (hC.blk 0 rfl)) ?_
   refine qR 2 [] ?_
   refine Qs.nil ?_
   intro w10 hS11
   refine rR (.tuple #[.int .i64 t4.line,.int .i64 t4.col]) Tryz.func77 ?_
   cases Option.some.inj hp3
   exact hR _ _ ⟨rfl,hS11⟩
  have L22 : ∀ (t13 e17 : weirref05_Lexer),weirref05_Lexer__place.l0 a1 t13 = some e17 → e17 = v1 → ∀ (l16 : List Value) (w14 : World) (hS15 : St w0 Z (xblk ba0 156 (enc_weirref05_Lexer t13)::fs) w14),Runs Tryz.prog (fx 77) td292 (fill (mk 54 [(0,.pointer (some ⟨ba0,0,none⟩)),(1,.int .i64 a1)]) l16) w14 R:=by
   refine weirref05_Lexer__place.l0.partial_correctness a1 (fun t13 e17 => e17 = v1 → ∀ (l16 : List Value) (w14 : World) (hS15 : St w0 Z (xblk ba0 156 (enc_weirref05_Lexer t13)::fs) w14),Runs Tryz.prog (fx 77) td292 (fill (mk 54 [(0,.pointer (some ⟨ba0,0,none⟩)),(1,.int .i64 a1)]) l16) w14 R) ?_
   intro rec21 ih20 t13 e17 hb19 he18 l16 w14 hS15
   refine sR 6 (.inRegion (opsOf (cd77 [1,0,0,0,0,0])) [3,4,5]::.code (cd77 [1,0,0,0,0,1])::.code (cd77 [1,0,0,0,1])::td291) ?_
   refine rL1 3 (.tmp 8) 5 (hS15.blk 0 rfl) ?_
   refine sI 2 (.inRegion (opsOf (cd77 [1,0,0,0,0,0])) []::.code (cd77 [1,0,0,0,0,1])::.code (cd77 [1,0,0,0,1])::td291) 11 hb19 (fun hp25 => ?_) fun hp46 => ?_
   ·refine sR 9 (iR (cd77 [1,0,0,0,1,0,0]) 3 5::.code (cd77 [1,0,0,0,1,0,1])::td293) ?_
    refine rL1 3 (.tmp 14) 7 (hS15.blk 0 rfl) ?_
    refine sR 3 (.inRegion (opsOf (cd77 [1,0,0,0,1,0,0])) [7]::.code (cd77 [1,0,0,0,1,0,1])::td293) ?_
    refine rS 3 (.tmp 18) (.tmp 16) 7 (.int .i64 (IntKind.i64.wrap (t13.col + 1))) [.int .i64 (IntKind.i64.wrap (t13.col + 1))] (enc_weirref05_Lexer (⟨t13.S,t13.At,t13.F,t13.from_,t13.line,(IntKind.i64.wrap (t13.col + 1))⟩ : weirref05_Lexer)) hS15 ?_
    intro w26 hS27
    refine sR 3 (.code p77_9::.code (cd77 [1,0,0,0,1,0,1,0,1])::td294) ?_
    refine r_quiet hS27 (c:=p77_9) (id:=3) (by kernel_rfl) (by kernel_rfl) (by kernel_rfl) (is:=[0,1,2,3,4,5,6,7,8,9]) (by kernel_rfl) ?_
    refine qR 3 (rg 3 7) ?_
    refine qL1 9 (.tmp 21) 0 (fun w hC => (hC.blk 0 rfl)) ?_
    refine qR 3 [7,8,9] ?_
    refine qL1 3 (.tmp 25) 5 (fun w hC => (hC.blk 0 rfl)) ?_
    obtain ⟨g28,hp29⟩:=ite_some hp25
    refine qV (.index 9 (.tmp 22) (.tmp 26)) (.int .u8 (byt t13.S t13.from_)) (fun w hC o ho _ => x_indexStr (kk:=.i64) (by kernel_rfl) (by kernel_rfl) (by kernel_rfl) g28.1 g28.2 ho) ?_
    refine qI 1 [] 28 hp29 (fun hp32 => ?_) fun hp41 => ?_
    ·refine Qs.nil ?_
     intro w33 hS34
     refine sR 6 (iR p77_12 3 5::.code p77_13::td294) ?_
     refine rL1 3 (.tmp 31) 6 (hS34.blk 0 rfl) ?_
     refine sR 3 (.inRegion (opsOf p77_12) [7]::.code p77_13::td294) ?_
     refine rS 3 (.tmp 35) (.tmp 33) 6 (.int .i64 (IntKind.i64.wrap (t13.line + 1))) [.int .i64 (IntKind.i64.wrap (t13.line + 1))] (enc_weirref05_Lexer (⟨t13.S,t13.At,t13.F,t13.from_,(IntKind.i64.wrap (t13.line + 1)),(IntKind.i64.wrap (t13.col + 1))⟩ : weirref05_Lexer)) hS34 ?_
     intro w35 hS36
     refine sR 5 (.inRegion (opsOf p77_13) [3]::td294) ?_
     refine rS 3 (.tmp 38) (.const (.int .i64 1)) 7 (.int .i64 1) [.int .i64 1] (enc_weirref05_Lexer (⟨t13.S,t13.At,t13.F,t13.from_,(IntKind.i64.wrap (t13.line + 1)),1⟩ : weirref05_Lexer)) hS36 ?_
     intro w37 hS38
     refine sR 5 (iR p77_11 3 5::td293) ?_
     refine rL1 3 (.tmp 41) 5 (hS38.blk 0 rfl) ?_
     refine sR 3 (.inRegion (opsOf p77_11) [7]::td293) ?_
     refine rS 3 (.tmp 45) (.tmp 43) 5 (.int .i64 (IntKind.i64.wrap (t13.from_ + 1))) [.int .i64 (IntKind.i64.wrap (t13.from_ + 1))] (enc_weirref05_Lexer (⟨t13.S,t13.At,t13.F,(IntKind.i64.wrap (t13.from_ + 1)),(IntKind.i64.wrap (t13.line + 1)),1⟩ : weirref05_Lexer)) hS38 ?_
     intro w39 hS40
     refine sR 2 td291 ?_
     refine sR 1 td292 ?_
     exact rF _ (ih20 (⟨t13.S,t13.At,t13.F,(IntKind.i64.wrap (t13.from_ + 1)),(IntKind.i64.wrap (t13.line + 1)),1⟩ : weirref05_Lexer) _ hp32 he18 _ _ hS40)
    refine Qs.nil ?_
    intro w42 hS43
    refine sR 6 (iR p77_11 3 5::td293) ?_
    refine rL1 3 (.tmp 41) 5 (hS43.blk 0 rfl) ?_
    refine sR 3 (.inRegion (opsOf p77_11) [7]::td293) ?_
    refine rS 3 (.tmp 45) (.tmp 43) 5 (.int .i64 (IntKind.i64.wrap (t13.from_ + 1))) [.int .i64 (IntKind.i64.wrap (t13.from_ + 1))] (enc_weirref05_Lexer (⟨t13.S,t13.At,t13.F,(IntKind.i64.wrap (t13.from_ + 1)),t13.line,(IntKind.i64.wrap (t13.col + 1))⟩ : weirref05_Lexer)) hS43 ?_
    intro w44 hS45
    refine sR 2 td291 ?_
    refine sR 1 td292 ?_
    exact rF _ (ih20 (⟨t13.S,t13.At,t13.F,(IntKind.i64.wrap (t13.from_ + 1)),t13.line,(IntKind.i64.wrap (t13.col + 1))⟩ : weirref05_Lexer) _ hp41 he18 _ _ hS45)
   refine sR 3 td289 ?_
   exact rF _ (J7 t13 ((Option.some.inj hp46).trans he18) _ _ hS15)
  exact rF _ (L22 a0v _ hv2 rfl _ _ hS0)

noncomputable def cd48 (p : List Nat) : Code := sub (bodyOf Tryz.f48) p
abbrev p48_7:=cd48 [1,1,0]
abbrev p48_14:=cd48 [1,1,1,1,1,1,1]
abbrev p48_19:=cd48 [1,1,1,1,1,1,0,1,0,1,1,0]
abbrev p48_21:=cd48 [1,1,1,1,1,1,1,0]
abbrev p48_22:=cd48 [1,1,1,1,1,1,1,1]
abbrev p48_23:=cd48 [1,1,1,1,1,1,1,1,0]
abbrev p48_24:=cd48 [1,1,1,1,1,1,1,1,1]
abbrev p48_25:=cd48 [1,1,1,1,1,1,1,1,1,0]
abbrev p48_26:=cd48 [1,1,1,1,1,1,1,1,1,1]
abbrev p48_27:=cd48 [1,1,1,1,1,0,0]
abbrev p48_29:=cd48 [1,1,1,1,1,0,1,0,0]
abbrev td295:List Item:=[.code (cd48 [1,1,1,1,1,1])]
abbrev td296:List Item:=.code (cd48 [1,1,1,1,1,0,1])::td295
abbrev td297:List Item:=.code (cd48 [1,1,1,1,1,0,1,0,1])::td295
def weirref05_Lexer__Next.f (a0v : weirref05_Lexer) : Option (api_Token × weirref05_Fault × weirref05_Lexer) :=
  (if (a0v.F.Code != 0) = true then some (((⟨0,(⟨#[]⟩ : ByteArray),0,0,0,0,0⟩ : api_Token),a0v.F,a0v)) else (weirref05_blanks.f a0v.S a0v.At >>= (fun (t22,t23) => (((if (decide (t23 < 0)) = true then (if (decide (t22 < (a0v.S.size : Int))) = true then (weirref05_token.f a0v.S t22 >>= (fun (t104,t105,t106) => (if (t105 == 0) = true then some (((-1),t105,t104)) else some ((t106,t105,t104))))) else some ((t23,51,(⟨0,(⟨#[]⟩ : ByteArray),0,0,0,t22,t22⟩ : api_Token)))) else some ((t23,51,(⟨0,(⟨#[]⟩ : ByteArray),0,0,0,t22,t22⟩ : api_Token)))) : Option (Int × Int × api_Token)) >>= (fun (t40,t41,t42) => (if (decide (t40 ≥ 0)) = true then (weirref05_Lexer__place.f a0v t40 >>= (fun (t51,t52,t53) => some (((⟨0,(⟨#[]⟩ : ByteArray),0,0,0,0,0⟩ : api_Token),(⟨t51,t52,t41⟩ : weirref05_Fault),(⟨t53.S,t53.At,(⟨t51,t52,t41⟩ : weirref05_Fault),t53.from_,t53.line,t53.col⟩ : weirref05_Lexer))))) else (weirref05_Lexer__place.f a0v t22 >>= (fun (t72,t73,t74) => some (((⟨t42.Kind,t42.Text,t42.Value,t72,t73,t42.At,t42.End⟩ : api_Token),(⟨0,0,0⟩ : weirref05_Fault),(⟨t74.S,t42.End,t74.F,t74.from_,t74.line,t74.col⟩ : weirref05_Lexer)))))))))))
theorem weirref05_Lexer__Next.ok {a0v : weirref05_Lexer} {ba0 : Nat} {q0 : api_Token} {q1 : weirref05_Fault} {q2 : weirref05_Lexer} (hp0 : weirref05_Lexer__Next.f a0v = some (q0,q1,q2)) (hS0 : St w0 Z (xblk ba0 156 (enc_weirref05_Lexer a0v)::fs) w) :
    Calls Tryz.prog 48 #[.pointer (some ⟨ba0,0,none⟩)] w (fun e w' => e = .returned (.tuple #[.agg (enc_api_Token q0).toArray,.agg (enc_weirref05_Fault q1).toArray]) ∧ St w0 Z (xblk ba0 156 (enc_weirref05_Lexer q2)::fs) w'):=by
  refine calls_abs ?_; intro R hR
  unfold weirref05_Lexer__Next.f at hp0
  refine calls_of_runs (fn:=Tryz.f48) (c:=cd48 []) Tryz.func48 (by kernel_rfl) (al:=[.pointer (some ⟨ba0,0,none⟩)]) rfl (n:=93) rfl ?_
  refine sR 2 [.inRegion (opsOf (cd48 [0])) [0,1],.code (cd48 [1])] ?_
  refine rA 75 (.agg (enc_api_Token (⟨0,(⟨#[]⟩ : ByteArray),0,0,0,0,0⟩ : api_Token)).toArray) (enc_api_Token (⟨0,(⟨#[]⟩ : ByteArray),0,0,0,0,0⟩ : api_Token)) hS0 ?_
  intro b1 w2 hS3
  refine rA 29 (.agg (enc_weirref05_Fault (⟨0,0,0⟩ : weirref05_Fault)).toArray) (enc_weirref05_Fault (⟨0,0,0⟩ : weirref05_Fault)) hS3 ?_
  intro b5 w6 hS7
  refine sR 8 [.inRegion (opsOf (cd48 [1,0,0])) [4,5],.code (cd48 [1,0,1]),.code (cd48 [1,1])] ?_
  refine rL1 3 (.tmp 13) 2 (sub_weirref05_Lexer_F (hS7.blk 2 rfl)) ?_
  refine sI 1 [.inRegion (opsOf (cd48 [1,0,0])) [],.code (cd48 [1,0,1]),.code (cd48 [1,1])] 15 hp0 (fun hp11 => ?_) fun hp21 => ?_
  ·refine sR 3 [.code (cd48 [1,0,1,0,0]),.code (cd48 [1,0,1,0,1]),.code (cd48 [1,1])] ?_
   refine r_drawnG (S:=Option (Unit × Option Unit)) (rank:=(fun st => match st with | none => 0 | some (x12,none) => 1 | some (x12,some x13) => 2)) (C:=(fun st w' => match st with | none => St w0 Z (xblk b5 29 (enc_weirref05_Fault (⟨0,0,0⟩ : weirref05_Fault))::xblk b1 75 (enc_api_Token (⟨0,(⟨#[]⟩ : ByteArray),0,0,0,0,0⟩ : api_Token))::xblk ba0 156 (enc_weirref05_Lexer a0v)::fs) w' | some (x12,none) => St w0 Z (xblk b1 75 (enc_api_Token (⟨0,(⟨#[]⟩ : ByteArray),0,0,0,0,0⟩ : api_Token))::xblk b5 29 (enc_weirref05_Fault (⟨0,0,0⟩ : weirref05_Fault))::xblk ba0 156 (enc_weirref05_Lexer a0v)::fs) w' | some (x12,some x13) => St w0 Z (xblk b5 29 (enc_weirref05_Fault a0v.F)::xblk b1 75 (enc_api_Token (⟨0,(⟨#[]⟩ : ByteArray),0,0,0,0,0⟩ : api_Token))::xblk ba0 156 (enc_weirref05_Lexer a0v)::fs) w')) (v:=(fun st => match st with | none => [.agg (enc_api_Token (⟨0,(⟨#[]⟩ : ByteArray),0,0,0,0,0⟩ : api_Token)).toArray,.pointer (some ⟨ba0,0,none⟩),.pointer (some ⟨ba0,0,none⟩),.pointer (some ⟨ba0,2,none⟩),.agg (enc_weirref05_Fault a0v.F).toArray,undef,undef] | some (x12,none) => [.agg (enc_api_Token (⟨0,(⟨#[]⟩ : ByteArray),0,0,0,0,0⟩ : api_Token)).toArray,.pointer (some ⟨ba0,0,none⟩),.pointer (some ⟨ba0,0,none⟩),.pointer (some ⟨ba0,2,none⟩),.agg (enc_weirref05_Fault a0v.F).toArray,undef,undef] | some (x12,some x13) => [.agg (enc_api_Token (⟨0,(⟨#[]⟩ : ByteArray),0,0,0,0,0⟩ : api_Token)).toArray,.pointer (some ⟨ba0,0,none⟩),.pointer (some ⟨ba0,0,none⟩),.pointer (some ⟨ba0,2,none⟩),.agg (enc_weirref05_Fault a0v.F).toArray,undef,undef])) (c:=(cd48 [1,0,1,0,0])) (id:=2) none 5 7 [5,6] [0,0,0,0,0,0,1] [0,1,1,1,1,1,2] [] (by kernel_rfl) (by kernel_rfl) (by kernel_rfl) (by kernel_rfl) (by kernel_rfl) (by kernel_rfl) (by kernel_rfl) (by kernel_rfl) (by kernel_rfl) (by kernel_rfl) rfl hS7.drew ?_ ?_ ?_ ?_
   ·intro st w hC
    rcases st with _ | ⟨x12,_ | x13⟩
    ·exact nbl rfl
    ·exact nbl rfl
    ·exact nbl rfl
   ·intro i hi he st w hC hr hu
    match i,hi,he with
    | 0,_,_ =>
     rcases st with _ | ⟨x12,_ | x13⟩
     ·dsimp only at hC
      exact dP (.agg (enc_api_Token (⟨0,(⟨#[]⟩ : ByteArray),0,0,0,0,0⟩ : api_Token)).toArray) hC
     ·exact absurd hu (nle rfl)
     ·exact absurd hu (nle rfl)
    | 1,_,_ =>
     rcases st with _ | ⟨x12,_ | x13⟩
     ·dsimp only at hC
      exact dP (.pointer (some ⟨ba0,0,none⟩)) hC
     ·dsimp only at hC
      exact dP (.pointer (some ⟨ba0,0,none⟩)) hC
     ·exact absurd hu (nle rfl)
    | 2,_,_ =>
     rcases st with _ | ⟨x12,_ | x13⟩
     ·dsimp only at hC
      exact dP (.pointer (some ⟨ba0,0,none⟩)) hC
     ·dsimp only at hC
      exact dP (.pointer (some ⟨ba0,0,none⟩)) hC
     ·exact absurd hu (nle rfl)
    | 3,_,_ =>
     rcases st with _ | ⟨x12,_ | x13⟩
     ·dsimp only at hC
      exact dP (.pointer (some ⟨ba0,2,none⟩)) hC
     ·dsimp only at hC
      exact dP (.pointer (some ⟨ba0,2,none⟩)) hC
     ·exact absurd hu (nle rfl)
    | 4,_,_ =>
     rcases st with _ | ⟨x12,_ | x13⟩
     ·dsimp only at hC
      exact does_run (x_load (t:=29) (x:=(.tmp 19)) (p:=⟨ba0,2,none⟩) (v:=.agg (enc_weirref05_Fault a0v.F).toArray) (by kernel_rfl) (loads_agg (sub_weirref05_Lexer_F (hC.blk 2 rfl)) (by kernel_rfl) (by kernel_rfl)) (by kernel_rfl)) rfl hC
     ·dsimp only at hC
      exact does_run (x_load (t:=29) (x:=(.tmp 19)) (p:=⟨ba0,2,none⟩) (v:=.agg (enc_weirref05_Fault a0v.F).toArray) (by kernel_rfl) (loads_agg (sub_weirref05_Lexer_F (hC.blk 2 rfl)) (by kernel_rfl) (by kernel_rfl)) (by kernel_rfl)) rfl hC
     ·exact absurd hu (nle rfl)
    | 5,_,he => exact absurd he (by decide)
    | 6,_,he => exact absurd he (by decide)
    | i + 7,hi,_ => exact absurd hi (by omega)
   ·intro k hk st w hC hr
    match k,hk with
    | 0,_ =>
     rcases st with _ | ⟨x12,_ | x13⟩
     ·dsimp only at hC
      have hC:=hC.pick1
      refine dSG 75 (.tmp 2) (.tmp 16) 0 (.agg (enc_api_Token (⟨0,(⟨#[]⟩ : ByteArray),0,0,0,0,0⟩ : api_Token)).toArray) (enc_api_Token (⟨0,(⟨#[]⟩ : ByteArray),0,0,0,0,0⟩ : api_Token)) (enc_api_Token (⟨0,(⟨#[]⟩ : ByteArray),0,0,0,0,0⟩ : api_Token)) hC (one_api_Token _) ?_
      intro w2 h2
      refine ⟨some ((),none),rfl,?_,.inl rfl,h2⟩
      intro j hj
      match j,hj with
      | 0,_ => exact rfl
      | 1,_ => exact rfl
      | 2,_ => exact rfl
      | 3,_ => exact rfl
      | 4,_ => exact rfl
      | 5,hj => exact absurd hj (by decide)
      | 6,hj => exact absurd hj (by decide)
      | j + 7,_ => exact rfl
     ·exact absurd hr (Nat.ne_of_beq_eq_false rfl)
     ·exact absurd hr (Nat.ne_of_beq_eq_false rfl)
    | 1,_ =>
     rcases st with _ | ⟨x12,_ | x13⟩
     ·exact absurd hr (Nat.ne_of_beq_eq_false rfl)
     ·dsimp only at hC
      have hC:=hC.pick1
      refine dSG 29 (.tmp 3) (.tmp 20) 0 (.agg (enc_weirref05_Fault a0v.F).toArray) (enc_weirref05_Fault a0v.F) (enc_weirref05_Fault a0v.F) hC (one_weirref05_Fault _) ?_
      intro w2 h2
      refine ⟨some (x12,some ()),rfl,?_,.inl rfl,h2⟩
      intro j hj
      match j,hj with
      | 0,_ => exact rfl
      | 1,_ => exact rfl
      | 2,_ => exact rfl
      | 3,_ => exact rfl
      | 4,_ => exact rfl
      | 5,_ => exact rfl
      | 6,hj => exact absurd hj (by decide)
      | j + 7,_ => exact rfl
     ·exact absurd hr (Nat.ne_of_beq_eq_false rfl)
    | k + 2,hk => exact absurd hk (by simp)
   intro st17 w14 hS15 hr16
   rcases st17 with _ | ⟨x12,_ | x13⟩
   ·exact absurd hr16 (nle rfl)
   ·exact absurd hr16 (nle rfl)
   replace hS15 : St w0 Z (xblk b5 29 (enc_weirref05_Fault a0v.F)::xblk b1 75 (enc_api_Token (⟨0,(⟨#[]⟩ : ByteArray),0,0,0,0,0⟩ : api_Token))::xblk ba0 156 (enc_weirref05_Lexer a0v)::fs) w14:=hS15
   have hS18:=hS15.drop
   have hS19:=hS18.drop
   refine rRc (.tuple #[.agg (enc_api_Token (⟨0,(⟨#[]⟩ : ByteArray),0,0,0,0,0⟩ : api_Token)).toArray,.agg (enc_weirref05_Fault a0v.F).toArray]) (.ca 2 75 (hS15.blk 1 rfl) (.ca 3 29 (hS15.blk 0 rfl) .nil)) Tryz.func48 ?_
   cases Option.some.inj hp11
   exact hR _ _ ⟨rfl,hS19⟩
  refine sR 4 [.code p48_7,.code (cd48 [1,1,1])] ?_
  refine r_quiet hS7 (c:=p48_7) (id:=3) (by kernel_rfl) (by kernel_rfl) (by kernel_rfl) (is:=[0,1,2,3,4,5,6,7,8,9,10,11,12,13]) (by kernel_rfl) ?_
  refine qR 3 (rg 3 11) ?_
  refine qL1 9 (.tmp 24) 0 (fun w hC => (hC.blk 2 rfl)) ?_
  refine qR 3 (rg 7 7) ?_
  refine qL1 3 (.tmp 28) 1 (fun w hC => (hC.blk 2 rfl)) ?_
  obtain ⟨⟨t22,t23⟩,hr24,hp25⟩:=bind_some' hp21
  try dsimp only at hp25
  refine q_call1 (c:=p48_7) (i:=8) (d:=(some 30)) (v:=.tuple #[.int .i64 t22,.int .i64 t23]) (g:=75) (args:=#[.string a0v.S,.int .i64 a0v.At]) (by kernel_rfl) (by kernel_rfl) (by kernel_rfl) (by kernel_rfl) (fun w hC => by
   refine (weirref05_blanks.ok hr24 hC).mono ?_
   rintro e w2 ⟨rfl,h2⟩
   have hS26:=h2.pick2
   have hS27:=hS26.pick2
   have hS28:=hS27.pick2
   exact ⟨rfl,hS28⟩) ?_
  refine qR 5 [] ?_
  refine Qs.nil ?_
  intro w29 hS30
  refine sR 9 [.inRegion (opsOf (cd48 [1,1,1,1,0])) [3,4],.code (cd48 [1,1,1,1,1])] ?_
  refine rA 75 (.agg (enc_api_Token (⟨0,(⟨#[]⟩ : ByteArray),0,0,0,0,0⟩ : api_Token)).toArray) (enc_api_Token (⟨0,(⟨#[]⟩ : ByteArray),0,0,0,0,0⟩ : api_Token)) hS30 ?_
  intro b31 w32 hS33
  refine rSA 75 (.tmp 7) (.tmp 35) (enc_api_Token (⟨0,(⟨#[]⟩ : ByteArray),0,0,0,t22,t22⟩ : api_Token)) hS33 (one_api_Token _) ?_
  intro w35 hS36
  obtain ⟨v37,hv38,hp39⟩:=bind_some' hp25
  have J45 : ∀ (t40 t41 : Int) (t42 : api_Token) (he47 : (t40,t41,t42) = v37) (l46 : List Value) (w43 : World) (hS44 : St w0 Z (xblk ba0 156 (enc_weirref05_Lexer a0v)::xblk b1 75 (enc_api_Token (⟨0,(⟨#[]⟩ : ByteArray),0,0,0,0,0⟩ : api_Token))::xblk b5 29 (enc_weirref05_Fault (⟨0,0,0⟩ : weirref05_Fault))::xblk b31 75 (enc_api_Token t42)::fs) w43),Runs Tryz.prog (fx 48) td295 (fill (mk 94 [(0,.pointer (some ⟨ba0,0,none⟩)),(2,.pointer (some ⟨b1,0,none⟩)),(3,.pointer (some ⟨b5,0,none⟩)),(4,.int .i64 t22),(5,.int .i64 t40),(6,.int .i64 t41),(7,.pointer (some ⟨b31,0,none⟩))]) l46) w43 R:=by
   intro t40 t41 t42 he47 l46 w43 hS44
   subst he47
   try dsimp only at hp39
   refine sI 5 [.inRegion (opsOf (cd48 [1,1,1,1,1,1,0,0])) [],.code (cd48 [1,1,1,1,1,1,0,1]),.code p48_14] 60 hp39 (fun hp50 => ?_) fun hp71 => ?_
   ·refine sR 6 [iR (cd48 [1,1,1,1,1,1,0,1,0,0]) 2 6,.code (cd48 [1,1,1,1,1,1,0,1,0,1]),.code p48_14] ?_
    obtain ⟨⟨t51,t52,t53⟩,hr54,hp55⟩:=bind_some' hp50
    try dsimp only at hp55
    refine rC (weirref05_Lexer__place.ok hr54 hS44) ?_
    rintro _ w56 ⟨rfl,hS57⟩
    refine ⟨_,rfl,?_⟩
    refine sR 15 [.inRegion (opsOf (cd48 [1,1,1,1,1,1,0,1,0,1,0])) [7],.code (cd48 [1,1,1,1,1,1,0,1,0,1,1]),.code p48_14] ?_
    refine rSG 29 (.tmp 73) (.tmp 71) 2 (.agg (enc_weirref05_Fault (⟨t51,t52,t41⟩ : weirref05_Fault)).toArray) (enc_weirref05_Fault (⟨t51,t52,t41⟩ : weirref05_Fault)) (enc_weirref05_Lexer (⟨t53.S,t53.At,(⟨t51,t52,t41⟩ : weirref05_Fault),t53.from_,t53.line,t53.col⟩ : weirref05_Lexer)) hS57 (one_weirref05_Fault _) ?_
    intro w58 hS59
    refine sR 2 [.code p48_19,.code (cd48 [1,1,1,1,1,1,0,1,0,1,1,1]),.code p48_14] ?_
    refine r_drawnG (S:=Option (Unit × Option Unit)) (rank:=(fun st => match st with | none => 0 | some (x60,none) => 1 | some (x60,some x61) => 2)) (C:=(fun st w' => match st with | none => St w0 Z (xblk ba0 156 (enc_weirref05_Lexer (⟨t53.S,t53.At,(⟨t51,t52,t41⟩ : weirref05_Fault),t53.from_,t53.line,t53.col⟩ : weirref05_Lexer))::xblk b1 75 (enc_api_Token (⟨0,(⟨#[]⟩ : ByteArray),0,0,0,0,0⟩ : api_Token))::xblk b5 29 (enc_weirref05_Fault (⟨0,0,0⟩ : weirref05_Fault))::xblk b31 75 (enc_api_Token t42)::fs) w' | some (x60,none) => St w0 Z (xblk b1 75 (enc_api_Token (⟨0,(⟨#[]⟩ : ByteArray),0,0,0,0,0⟩ : api_Token))::xblk ba0 156 (enc_weirref05_Lexer (⟨t53.S,t53.At,(⟨t51,t52,t41⟩ : weirref05_Fault),t53.from_,t53.line,t53.col⟩ : weirref05_Lexer))::xblk b5 29 (enc_weirref05_Fault (⟨0,0,0⟩ : weirref05_Fault))::xblk b31 75 (enc_api_Token t42)::fs) w' | some (x60,some x61) => St w0 Z (xblk b5 29 (enc_weirref05_Fault (⟨t51,t52,t41⟩ : weirref05_Fault))::xblk b1 75 (enc_api_Token (⟨0,(⟨#[]⟩ : ByteArray),0,0,0,0,0⟩ : api_Token))::xblk ba0 156 (enc_weirref05_Lexer (⟨t53.S,t53.At,(⟨t51,t52,t41⟩ : weirref05_Fault),t53.from_,t53.line,t53.col⟩ : weirref05_Lexer))::xblk b31 75 (enc_api_Token t42)::fs) w')) (v:=(fun st => match st with | none => [.agg (enc_api_Token (⟨0,(⟨#[]⟩ : ByteArray),0,0,0,0,0⟩ : api_Token)).toArray,.pointer (some ⟨ba0,0,none⟩),.pointer (some ⟨ba0,0,none⟩),.pointer (some ⟨ba0,2,none⟩),.agg (enc_weirref05_Fault (⟨t51,t52,t41⟩ : weirref05_Fault)).toArray,undef,undef] | some (x60,none) => [.agg (enc_api_Token (⟨0,(⟨#[]⟩ : ByteArray),0,0,0,0,0⟩ : api_Token)).toArray,.pointer (some ⟨ba0,0,none⟩),.pointer (some ⟨ba0,0,none⟩),.pointer (some ⟨ba0,2,none⟩),.agg (enc_weirref05_Fault (⟨t51,t52,t41⟩ : weirref05_Fault)).toArray,undef,undef] | some (x60,some x61) => [.agg (enc_api_Token (⟨0,(⟨#[]⟩ : ByteArray),0,0,0,0,0⟩ : api_Token)).toArray,.pointer (some ⟨ba0,0,none⟩),.pointer (some ⟨ba0,0,none⟩),.pointer (some ⟨ba0,2,none⟩),.agg (enc_weirref05_Fault (⟨t51,t52,t41⟩ : weirref05_Fault)).toArray,undef,undef])) (c:=p48_19) (id:=13) none 5 7 [5,6] [0,0,0,0,0,0,1] [0,1,1,1,1,1,2] [] (by kernel_rfl) (by kernel_rfl) (by kernel_rfl) (by kernel_rfl) (by kernel_rfl) (by kernel_rfl) (by kernel_rfl) (by kernel_rfl) (by kernel_rfl) (by kernel_rfl) rfl hS59.drew ?_ ?_ ?_ ?_
    ·intro st w hC
     rcases st with _ | ⟨x60,_ | x61⟩
     ·exact nbl rfl
     ·exact nbl rfl
     ·exact nbl rfl
    ·intro i hi he st w hC hr hu
     match i,hi,he with
     | 0,_,_ =>
      rcases st with _ | ⟨x60,_ | x61⟩
      ·dsimp only at hC
       exact dP (.agg (enc_api_Token (⟨0,(⟨#[]⟩ : ByteArray),0,0,0,0,0⟩ : api_Token)).toArray) hC
      ·exact absurd hu (nle rfl)
      ·exact absurd hu (nle rfl)
     | 1,_,_ =>
      rcases st with _ | ⟨x60,_ | x61⟩
      ·dsimp only at hC
       exact dP (.pointer (some ⟨ba0,0,none⟩)) hC
      ·dsimp only at hC
       exact dP (.pointer (some ⟨ba0,0,none⟩)) hC
      ·exact absurd hu (nle rfl)
     | 2,_,_ =>
      rcases st with _ | ⟨x60,_ | x61⟩
      ·dsimp only at hC
       exact dP (.pointer (some ⟨ba0,0,none⟩)) hC
      ·dsimp only at hC
       exact dP (.pointer (some ⟨ba0,0,none⟩)) hC
      ·exact absurd hu (nle rfl)
     | 3,_,_ =>
      rcases st with _ | ⟨x60,_ | x61⟩
      ·dsimp only at hC
       exact dP (.pointer (some ⟨ba0,2,none⟩)) hC
      ·dsimp only at hC
       exact dP (.pointer (some ⟨ba0,2,none⟩)) hC
      ·exact absurd hu (nle rfl)
     | 4,_,_ =>
      rcases st with _ | ⟨x60,_ | x61⟩
      ·dsimp only at hC
       exact does_run (x_load (t:=29) (x:=(.tmp 77)) (p:=⟨ba0,2,none⟩) (v:=.agg (enc_weirref05_Fault (⟨t51,t52,t41⟩ : weirref05_Fault)).toArray) (by kernel_rfl) (loads_agg (sub_weirref05_Lexer_F (hC.blk 0 rfl)) (by kernel_rfl) (by kernel_rfl)) (by kernel_rfl)) rfl hC
      ·dsimp only at hC
       exact does_run (x_load (t:=29) (x:=(.tmp 77)) (p:=⟨ba0,2,none⟩) (v:=.agg (enc_weirref05_Fault (⟨t51,t52,t41⟩ : weirref05_Fault)).toArray) (by kernel_rfl) (loads_agg (sub_weirref05_Lexer_F (hC.blk 1 rfl)) (by kernel_rfl) (by kernel_rfl)) (by kernel_rfl)) rfl hC
      ·exact absurd hu (nle rfl)
     | 5,_,he => exact absurd he (by decide)
     | 6,_,he => exact absurd he (by decide)
     | i + 7,hi,_ => exact absurd hi (by omega)
    ·intro k hk st w hC hr
     match k,hk with
     | 0,_ =>
      rcases st with _ | ⟨x60,_ | x61⟩
      ·dsimp only at hC
       have hC:=hC.pick1
       refine dSG 75 (.tmp 2) (.tmp 74) 0 (.agg (enc_api_Token (⟨0,(⟨#[]⟩ : ByteArray),0,0,0,0,0⟩ : api_Token)).toArray) (enc_api_Token (⟨0,(⟨#[]⟩ : ByteArray),0,0,0,0,0⟩ : api_Token)) (enc_api_Token (⟨0,(⟨#[]⟩ : ByteArray),0,0,0,0,0⟩ : api_Token)) hC (one_api_Token _) ?_
       intro w2 h2
       refine ⟨some ((),none),rfl,?_,.inl rfl,h2⟩
       intro j hj
       match j,hj with
       | 0,_ => exact rfl
       | 1,_ => exact rfl
       | 2,_ => exact rfl
       | 3,_ => exact rfl
       | 4,_ => exact rfl
       | 5,hj => exact absurd hj (by decide)
       | 6,hj => exact absurd hj (by decide)
       | j + 7,_ => exact rfl
      ·exact absurd hr (Nat.ne_of_beq_eq_false rfl)
      ·exact absurd hr (Nat.ne_of_beq_eq_false rfl)
     | 1,_ =>
      rcases st with _ | ⟨x60,_ | x61⟩
      ·exact absurd hr (Nat.ne_of_beq_eq_false rfl)
      ·dsimp only at hC
       have hC:=hC.pick2
       refine dSG 29 (.tmp 3) (.tmp 78) 0 (.agg (enc_weirref05_Fault (⟨t51,t52,t41⟩ : weirref05_Fault)).toArray) (enc_weirref05_Fault (⟨t51,t52,t41⟩ : weirref05_Fault)) (enc_weirref05_Fault (⟨t51,t52,t41⟩ : weirref05_Fault)) hC (one_weirref05_Fault _) ?_
       intro w2 h2
       refine ⟨some (x60,some ()),rfl,?_,.inl rfl,h2⟩
       intro j hj
       match j,hj with
       | 0,_ => exact rfl
       | 1,_ => exact rfl
       | 2,_ => exact rfl
       | 3,_ => exact rfl
       | 4,_ => exact rfl
       | 5,_ => exact rfl
       | 6,hj => exact absurd hj (by decide)
       | j + 7,_ => exact rfl
      ·exact absurd hr (Nat.ne_of_beq_eq_false rfl)
     | k + 2,hk => exact absurd hk (by simp)
    intro st65 w62 hS63 hr64
    rcases st65 with _ | ⟨x60,_ | x61⟩
    ·exact absurd hr64 (nle rfl)
    ·exact absurd hr64 (nle rfl)
    replace hS63 : St w0 Z (xblk b5 29 (enc_weirref05_Fault (⟨t51,t52,t41⟩ : weirref05_Fault))::xblk b1 75 (enc_api_Token (⟨0,(⟨#[]⟩ : ByteArray),0,0,0,0,0⟩ : api_Token))::xblk ba0 156 (enc_weirref05_Lexer (⟨t53.S,t53.At,(⟨t51,t52,t41⟩ : weirref05_Fault),t53.from_,t53.line,t53.col⟩ : weirref05_Lexer))::xblk b31 75 (enc_api_Token t42)::fs) w62:=hS63
    have hS66:=hS63.drop
    have hS67:=hS66.drop
    have hS68:=hS67.pick1
    have hS69:=hS68.drop
    refine rRc (.tuple #[.agg (enc_api_Token (⟨0,(⟨#[]⟩ : ByteArray),0,0,0,0,0⟩ : api_Token)).toArray,.agg (enc_weirref05_Fault (⟨t51,t52,t41⟩ : weirref05_Fault)).toArray]) (.ca 2 75 (hS63.blk 1 rfl) (.ca 3 29 (hS63.blk 0 rfl) .nil)) Tryz.func48 ?_
    cases Option.some.inj hp55
    exact hR _ _ ⟨rfl,hS69⟩
   refine sR 7 [iR p48_21 2 8,.code p48_22] ?_
   obtain ⟨⟨t72,t73,t74⟩,hr75,hp76⟩:=bind_some' hp71
   try dsimp only at hp76
   refine rC (weirref05_Lexer__place.ok hr75 hS44) ?_
   rintro _ w77 ⟨rfl,hS78⟩
   refine ⟨_,rfl,?_⟩
   refine sR 4 [.inRegion (opsOf p48_21) [7,8,9],.code p48_22] ?_
   have hS79:=hS78.pick3
   refine rS 3 (.tmp 85) (.tmp 83) 3 (.int .i64 t72) [.int .i64 t72] (enc_api_Token (⟨t42.Kind,t42.Text,t42.Value,t72,t42.Col,t42.At,t42.End⟩ : api_Token)) hS79 ?_
   intro w80 hS81
   refine sR 1 [.inRegion (opsOf p48_21) [9],.code p48_22] ?_
   refine rS 3 (.tmp 86) (.tmp 84) 4 (.int .i64 t73) [.int .i64 t73] (enc_api_Token (⟨t42.Kind,t42.Text,t42.Value,t72,t73,t42.At,t42.End⟩ : api_Token)) hS81 ?_
   intro w82 hS83
   refine sR 5 [iR p48_23 2 4,.code p48_24] ?_
   refine rL1 3 (.tmp 88) 6 (hS83.blk 0 rfl) ?_
   refine sR 2 [.inRegion (opsOf p48_23) [5],.code p48_24] ?_
   have hS84:=hS83.pick1
   refine rS 3 (.tmp 91) (.tmp 89) 1 (.int .i64 t42.End) [.int .i64 t42.End] (enc_weirref05_Lexer (⟨t74.S,t42.End,t74.F,t74.from_,t74.line,t74.col⟩ : weirref05_Lexer)) hS84 ?_
   intro w85 hS86
   refine sR 3 [iR p48_25 0 4,.code p48_26] ?_
   refine rLa 75 (.tmp 7) (hS86.blk 1 rfl) ?_
   refine sR 1 [.inRegion (opsOf p48_25) [2,3],.code p48_26] ?_
   have hS87:=hS86.pick2
   refine rSA 75 (.tmp 2) (.tmp 92) (enc_api_Token (⟨t42.Kind,t42.Text,t42.Value,t72,t73,t42.At,t42.End⟩ : api_Token)) hS87 (one_api_Token _) ?_
   intro w88 hS89
   have hS90:=hS89.pick3
   refine rSA 29 (.tmp 3) (.tmp 93) (enc_weirref05_Fault (⟨0,0,0⟩ : weirref05_Fault)) hS90 (one_weirref05_Fault _) ?_
   intro w91 hS92
   refine sR 1 [.code p48_26] ?_
   have hS93:=hS92.drop
   have hS94:=hS93.drop
   have hS95:=hS94.pick1
   have hS96:=hS95.drop
   refine rRc (.tuple #[.agg (enc_api_Token (⟨t42.Kind,t42.Text,t42.Value,t72,t73,t42.At,t42.End⟩ : api_Token)).toArray,.agg (enc_weirref05_Fault (⟨0,0,0⟩ : weirref05_Fault)).toArray]) (.ca 2 75 (hS92.blk 1 rfl) (.ca 3 29 (hS92.blk 0 rfl) .nil)) Tryz.func48 ?_
   cases Option.some.inj hp76
   exact hR _ _ ⟨rfl,hS96⟩
  refine sI 6 (iR p48_27 2 9::td296) 37 hv38 (fun hp100 => ?_) fun hp127 => ?_
  ·refine sR 5 (iR p48_27 7 4::td296) ?_
   refine rL1 9 (.tmp 42) 0 (hS36.blk 3 rfl) ?_
   refine sI 2 (.inRegion (opsOf p48_27) [10]::td296) 45 hp100 (fun hp103 => ?_) fun hp123 => ?_
   ·refine sR 8 (iR p48_29 3 10::td297) ?_
    refine rL1 9 (.tmp 50) 0 (hS36.blk 3 rfl) ?_
    refine sR 1 (iR p48_29 5 8::td297) ?_
    obtain ⟨⟨t104,t105,t106⟩,hr107,hp108⟩:=bind_some' hp103
    try dsimp only at hp108
    refine rC (weirref05_token.ok hr107 hS36) ?_
    rintro _ w109 ⟨rfl,hS110⟩
    refine ⟨_,rfl,?_⟩
    refine sR 4 (.inRegion (opsOf p48_29) [10,11,12]::td297) ?_
    refine rSA 75 (.tmp 7) (.tmp 54) (enc_api_Token t104) hS110 (one_api_Token _) ?_
    intro w111 hS112
    refine sI 7 (.inRegion (opsOf (cd48 [1,1,1,1,1,0,1,0,1,0])) []::.code (cd48 [1,1,1,1,1,0,1,0,1,1])::td295) 58 hp108 (fun hp115 => ?_) fun hp119 => ?_
    ·refine sR 5 td295 ?_
     have hS116:=hS112.pick1
     have hS117:=hS116.pick2
     have hS118:=hS117.pick3
     exact rF _ (J45 (-1) t105 t104 (Option.some.inj hp115) _ _ hS118)
    refine sR 3 td295 ?_
    have hS120:=hS112.pick1
    have hS121:=hS120.pick2
    have hS122:=hS121.pick3
    exact rF _ (J45 t106 t105 t104 (Option.some.inj hp119) _ _ hS122)
   refine sR 4 td295 ?_
   have hS124:=hS36.pick1
   have hS125:=hS124.pick2
   have hS126:=hS125.pick3
   exact rF _ (J45 t23 51 (⟨0,(⟨#[]⟩ : ByteArray),0,0,0,t22,t22⟩ : api_Token) (Option.some.inj hp123) _ _ hS126)
  refine sR 12 td295 ?_
  have hS128:=hS36.pick1
  have hS129:=hS128.pick2
  have hS130:=hS129.pick3
  exact rF _ (J45 t23 51 (⟨0,(⟨#[]⟩ : ByteArray),0,0,0,t22,t22⟩ : api_Token) (Option.some.inj hp127) _ _ hS130)

noncomputable def cd28 (p : List Nat) : Code := sub (bodyOf Tryz.f28) p
abbrev p28_7:=cd28 [1,1,1,0,0,0,1,0,0]
abbrev p28_9:=cd28 [1,1,1,0,0,0,1,1]
abbrev p28_10:=cd28 [1,1,1,0,0,0,1,0,1,0,0]
abbrev td298:List Item:=[.inBlock 0]
abbrev td299:List Item:=.inLoop (cd28 [1,1,1,0,0])::td298
abbrev td300:List Item:=.code (cd28 [1,1,1,0,0])::td299
abbrev td301:List Item:=.inBlock 1::td299
abbrev td302:List Item:=.code p28_9::td301
abbrev td303:List Item:=.code (cd28 [1,1,1,0,0,0,1,0,1])::td302
abbrev td304:List Item:=.code (cd28 [1,1,1,0,0,0,1,0,1,0,1])::td302
def weirref05_Tokens.l0 (t16 : List api_Token) (t20 : weirref05_Lexer) : Option ((List api_Token) × weirref05_Fault) :=
  (weirref05_Lexer__Next.f t20 >>= (fun (t31,t32,t33) => (if (t32.Code != 0) = true then some ((t16,t32)) else (if (t31.Kind == 0) = true then some ((t16,t32)) else (if (t16.length + ([t31] : List api_Token).length) * 64 ≤ 140737488355328 then (weirref05_Tokens.l0 (t16 ++ ([t31] : List api_Token)) t33) else none)))))
 partial_fixpoint
def weirref05_Tokens.f (a0 : ByteArray) : Option ((List api_Token) × weirref05_Fault) :=
  (weirref05_New.f a0 >>= (fun t5 => (weirref05_Tokens.l0 [] t5 >>= fun e => some e)))
theorem weirref05_Tokens.ok {a0 : ByteArray} {q0 : List api_Token} {q1 : weirref05_Fault} (hp0 : weirref05_Tokens.f a0 = some (q0,q1)) (hS0 : St w0 Z (fs) w) :
    Calls Tryz.prog 28 #[.string a0] w (fun e w' => ∃ (QA0 : Option Addr) (Qc0 : Nat),e = .returned (.tuple #[.slice QA0 q0.length Qc0,.agg (enc_weirref05_Fault q1).toArray]) ∧ St w0 Z (xrow QA0 Qc0 75 7 (q0.flatMap enc_api_Token)::fs) w'):=by
  refine calls_abs ?_; intro R hR
  unfold weirref05_Tokens.f at hp0
  refine calls_of_runs (fn:=Tryz.f28) (c:=cd28 []) Tryz.func28 (by kernel_rfl) (al:=[.string a0]) rfl (n:=28) rfl ?_
  refine sR 3 [.inRegion (opsOf (cd28 [0])) [1],.code (cd28 [1])] ?_
  refine rA 29 (.agg (enc_weirref05_Fault (⟨0,0,0⟩ : weirref05_Fault)).toArray) (enc_weirref05_Fault (⟨0,0,0⟩ : weirref05_Fault)) hS0 ?_
  intro b1 w2 hS3
  refine sR 4 [.inRegion (opsOf (cd28 [1,0])) [1,2],.code (cd28 [1,1])] ?_
  obtain ⟨t5,hr7,hp8⟩:=bind_some' hp0
  refine rC (weirref05_New.ok hr7 hS3) ?_
  rintro _ w10 ⟨Q6,rfl,hS11⟩
  refine ⟨_,rfl,?_⟩
  refine sR 8 td300 ?_
  obtain ⟨v12,hv13,hp14⟩:=bind_some' hp8
  have hq15 : ∀ x,x = v12 → x = (q0,q1):=by intro x hx; subst hx; simpa using hp14
  have L29 : ∀ (t16 : List api_Token) (t20 : weirref05_Lexer) (e24 : ((List api_Token) × weirref05_Fault)),weirref05_Tokens.l0 t16 t20 = some e24 → e24 = v12 → ∀ (l23 : List Value) (A17 : Option Addr) (c18 : Nat) (w21 : World) (hS22 : St w0 Z (xblk b1 29 (enc_weirref05_Fault (⟨0,0,0⟩ : weirref05_Fault))::xblk Q6 156 (enc_weirref05_Lexer t20)::xrow A17 c18 75 7 (t16.flatMap enc_api_Token)::fs) w21),Runs Tryz.prog (fx 28) td300 (fill (mk 29 [(3,.pointer (some ⟨b1,0,none⟩)),(4,.pointer (some ⟨Q6,0,none⟩)),(5,.slice A17 t16.length c18)]) l23) w21 R:=by
   refine weirref05_Tokens.l0.partial_correctness (fun t16 t20 e24 => e24 = v12 → ∀ (l23 : List Value) (A17 : Option Addr) (c18 : Nat) (w21 : World) (hS22 : St w0 Z (xblk b1 29 (enc_weirref05_Fault (⟨0,0,0⟩ : weirref05_Fault))::xblk Q6 156 (enc_weirref05_Lexer t20)::xrow A17 c18 75 7 (t16.flatMap enc_api_Token)::fs) w21),Runs Tryz.prog (fx 28) td300 (fill (mk 29 [(3,.pointer (some ⟨b1,0,none⟩)),(4,.pointer (some ⟨Q6,0,none⟩)),(5,.slice A17 t16.length c18)]) l23) w21 R) ?_
   intro rec28 ih27 t16 t20 e24 hb26 he25 l23 A17 c18 w21 hS22
   have hq30 : ∀ x,id x = e24 → x = (q0,q1):=fun x hx => hq15 x (hx.trans he25)
   refine sR 4 (iR (cd28 [1,1,1,0,0,0,0]) 1 8::.code (cd28 [1,1,1,0,0,0,1])::td301) ?_
   obtain ⟨⟨t31,t32,t33⟩,hr34,hp35⟩:=bind_some' hb26
   try dsimp only at hp35
   have hS36:=hS22.pick1
   refine rC (weirref05_Lexer__Next.ok hr34 hS36) ?_
   rintro _ w37 ⟨rfl,hS38⟩
   refine ⟨_,rfl,?_⟩
   refine sR 3 (iR (cd28 [1,1,1,0,0,0,0]) 5 4::.code (cd28 [1,1,1,0,0,0,1])::td301) ?_
   refine rA 75 (.agg (enc_api_Token (⟨0,(⟨#[]⟩ : ByteArray),0,0,0,0,0⟩ : api_Token)).toArray) (enc_api_Token (⟨0,(⟨#[]⟩ : ByteArray),0,0,0,0,0⟩ : api_Token)) hS38 ?_
   intro b39 w40 hS41
   refine rA 29 (.agg (enc_weirref05_Fault (⟨0,0,0⟩ : weirref05_Fault)).toArray) (enc_weirref05_Fault (⟨0,0,0⟩ : weirref05_Fault)) hS41 ?_
   intro b43 w44 hS45
   have hS47:=hS45.pick1
   refine rSA 75 (.tmp 6) (.tmp 13) (enc_api_Token t31) hS47 (one_api_Token _) ?_
   intro w48 hS49
   have hS50:=hS49.pick1
   refine rSA 29 (.tmp 7) (.tmp 14) (enc_weirref05_Fault t32) hS50 (one_weirref05_Fault _) ?_
   intro w51 hS52
   refine sR 5 (iR p28_7 1 7::td303) ?_
   refine rL1 3 (.tmp 15) 2 (hS52.blk 0 rfl) ?_
   refine sI 1 (iR p28_7 3 5::td303) 17 hp35 (fun hp55 => ?_) fun hp66 => ?_
   ·refine sR 8 (.code p28_10::td304) ?_
    refine r_drawn3 (C:=St w0 Z (xblk b43 29 (enc_weirref05_Fault t32)::xblk b39 75 (enc_api_Token t31)::xblk Q6 156 (enc_weirref05_Lexer t33)::xblk b1 29 (enc_weirref05_Fault (⟨0,0,0⟩ : weirref05_Fault))::xrow A17 c18 75 7 (t16.flatMap enc_api_Token)::fs)) (c:=p28_10) (id:=5) (by kernel_rfl) (by kernel_rfl) 3 (Nat.le_of_ble_eq_true (by kernel_rfl)) (by kernel_rfl) (by kernel_rfl) (by kernel_rfl) (is:=[0,1,2]) (rest:=[3]) (by kernel_rfl) (by kernel_rfl) hS52.drew ?_
    refine qR 1 [1,2] ?_
    refine qLa 29 (.tmp 7) (fun w hC => (hC.blk 0 rfl)) ?_
    refine qR 1 [] ?_
    refine Qs.nil ?_
    intro w56 hS57
    have hS58:=hS57.pick3
    refine rSA 29 (.tmp 3) (.tmp 24) (enc_weirref05_Fault t32) hS58 (one_weirref05_Fault _) ?_
    intro w59 hS60
    refine sR 1 td304 ?_
    have hS61:=hS60.drop
    have hS62:=hS61.drop
    have hS63:=hS62.drop
    have hS64:=hS63.drop
    refine rRc (.tuple #[.slice A17 t16.length c18,.agg (enc_weirref05_Fault t32).toArray]) (.tm 2 (.ca 3 29 (hS60.blk 0 rfl) .nil)) Tryz.func28 ?_
    cases hq30 _ (Option.some.inj hp55)
    exact hR _ _ ⟨A17,c18,rfl,hS64⟩
   refine sR 2 (.inRegion (opsOf p28_7) [5,6,7]::td303) ?_
   refine rL1 3 (.tmp 19) 0 (hS52.blk 1 rfl) ?_
   refine sI 1 (.inRegion (opsOf p28_7) [7]::td303) 21 hp66 (fun hp69 => ?_) fun hp80 => ?_
   ·refine sR 4 (.code p28_10::td304) ?_
    refine r_drawn3 (C:=St w0 Z (xblk b43 29 (enc_weirref05_Fault t32)::xblk b39 75 (enc_api_Token t31)::xblk Q6 156 (enc_weirref05_Lexer t33)::xblk b1 29 (enc_weirref05_Fault (⟨0,0,0⟩ : weirref05_Fault))::xrow A17 c18 75 7 (t16.flatMap enc_api_Token)::fs)) (c:=p28_10) (id:=5) (by kernel_rfl) (by kernel_rfl) 3 (Nat.le_of_ble_eq_true (by kernel_rfl)) (by kernel_rfl) (by kernel_rfl) (by kernel_rfl) (is:=[0,1,2]) (rest:=[3]) (by kernel_rfl) (by kernel_rfl) hS52.drew ?_
    refine qR 1 [1,2] ?_
    refine qLa 29 (.tmp 7) (fun w hC => (hC.blk 0 rfl)) ?_
    refine qR 1 [] ?_
    refine Qs.nil ?_
    intro w70 hS71
    have hS72:=hS71.pick3
    refine rSA 29 (.tmp 3) (.tmp 24) (enc_weirref05_Fault t32) hS72 (one_weirref05_Fault _) ?_
    intro w73 hS74
    refine sR 1 td304 ?_
    have hS75:=hS74.drop
    have hS76:=hS75.drop
    have hS77:=hS76.drop
    have hS78:=hS77.drop
    refine rRc (.tuple #[.slice A17 t16.length c18,.agg (enc_weirref05_Fault t32).toArray]) (.tm 2 (.ca 3 29 (hS74.blk 0 rfl) .nil)) Tryz.func28 ?_
    cases hq30 _ (Option.some.inj hp69)
    exact hR _ _ ⟨A17,c18,rfl,hS78⟩
   refine sR 6 (iR p28_9 1 4::td301) ?_
   refine rLa 75 (.tmp 6) (hS52.blk 1 rfl) ?_
   refine r_lit (c:=p28_9) (i:=2) (d:=(some 27)) (ty:=53) (t:=53) (e:=75) (sz:=7) (n:=1) (parts:=#[(0,(.tmp 26))]) (vs:=[(0,.agg (enc_api_Token t31).toArray)]) (z:=zeroOf Tryz.prog 75) (cs':=([t31] : List api_Token).flatMap enc_api_Token) hS52 (by kernel_rfl) (by kernel_rfl) (by kernel_rfl) (by kernel_rfl) (by kernel_rfl) (by decide) (by decide) (by kernel_rfl) rfl (Parts.cons (c:=enc_api_Token t31) (by kernel_rfl) (len_api_Token _) Parts.nil) rfl ?_
   intro b82 w83 hS84
   have hS85:=hS84.pick5
   obtain ⟨g86,hp87⟩:=ite_some hp80
   refine r_append (c:=p28_9) (i:=3) (d:=(some 28)) (ty:=53) (enc:=enc_api_Token) (e:=75) (u:=75) (t:=53) (t2:=53) (sz:=7) (cp:=c18) (A:=A17) (bytes:=64) (xs:=t16) (ys:=([t31] : List api_Token)) (s:=(.tmp 25)) (x:=(.tmp 27)) (xv:=.slice (some ⟨b82,0,none⟩) ([t31] : List api_Token).length 1) (info:=infoOf Tryz.prog 75) (z:=zeroOf Tryz.prog 75) (ycs:=([t31] : List api_Token).flatMap enc_api_Token) hS85 (by kernel_rfl) (by kernel_rfl) (by kernel_rfl) (by kernel_rfl) (by kernel_rfl) (.inl (by kernel_rfl)) (by kernel_rfl) (by kernel_rfl) (by kernel_rfl) (by kernel_rfl) (by kernel_rfl) (by omega) len_api_Token one_api_Token (src_row (hS85.row 1 rfl) (by omega) len_api_Token) rfl g86 (by omega) ?_
   intro A88 c89 w90 hS91
   refine sR 3 td299 ?_
   have hS93:=hS91.pick1
   have hS94:=hS93.drop
   have hS95:=hS94.pick1
   have hS96:=hS95.drop
   have hS97:=hS96.pick1
   have hS98:=hS97.drop
   have hS99:=hS98.pick1
   have hS100:=hS99.pick2
   refine sR 1 td300 ?_
   exact rF _ (ih27 (t16 ++ ([t31] : List api_Token)) t33 _ hp87 he25 _ A88 c89 _ hS100)
  have hS102:=hS11.nilrow none 75 7
  have hS103:=hS102.pick1
  have hS104:=hS103.pick2
  exact rF _ (L29 [] t5 _ hv13 rfl _ none 0 _ hS104)

noncomputable def cd29 (p : List Nat) : Code := sub (bodyOf Tryz.f29) p
abbrev p29_2:=cd29 [1,1]
abbrev p29_10:=cd29 [1,1,1,0,1,0,0,1,0,0,1,0]
abbrev p29_11:=cd29 [1,1,1,0,1,0,0,1,0,0,1,1]
abbrev p29_12:=cd29 [1,1,1,0,1,0,0,1,1]
abbrev td305:List Item:=[.code (cd29 [1,1,1,1])]
abbrev td306:List Item:=.inBlock 0::td305
abbrev td307:List Item:=.inLoop (cd29 [1,1,1,0,1,0,0])::td306
abbrev td308:List Item:=.code (cd29 [1,1,1,0,1,0,0])::td307
def weirref05_Place.l0 (a0 : ByteArray) (a1 t22 : Int) (t23 t24 : Int) : Option (Int × Int) :=
  (if (decide (t24 < a1)) = true then (if 0 ≤ t24 ∧ t24 < (a0.size : Int) then (if ((byt a0 t24) == 10) = true then (weirref05_Place.l0 a0 a1 (IntKind.i64.wrap (t22 + 1)) 1 (IntKind.i64.wrap (t24 + 1))) else (weirref05_Place.l0 a0 a1 (id t22) (IntKind.i64.wrap (t23 + 1)) (IntKind.i64.wrap (t24 + 1)))) else none) else some ((t22,t23)))
 partial_fixpoint
def weirref05_Place.f (a0 : ByteArray) (a1 : Int) : Option (Int × Int × Bool) :=
  (if (decide (a1 < 0)) = true then some ((0,0,false)) else (if (decide (a1 > (a0.size : Int))) = true then some ((0,0,false)) else (weirref05_Place.l0 a0 a1 1 1 0 >>= (fun (t14,t15) => some ((t14,t15,true))))))
theorem weirref05_Place.ok {a0 : ByteArray} {a1 q0 q1 : Int} {q2 : Bool} (hp0 : weirref05_Place.f a0 a1 = some (q0,q1,q2)) (hS0 : St w0 Z (fs) w) :
    Calls Tryz.prog 29 #[.string a0,.int .i64 a1] w (fun e w' => e = .returned (.tuple #[.int .i64 q0,.int .i64 q1,.bool q2]) ∧ St w0 Z (fs) w'):=by
  refine calls_abs ?_; intro R hR
  unfold weirref05_Place.f at hp0
  refine calls_of_runs (fn:=Tryz.f29) (c:=cd29 []) Tryz.func29 (by kernel_rfl) (al:=[.string a0,.int .i64 a1]) rfl (n:=31) rfl ?_
  refine sI 11 [iR (cd29 [1,0,0]) 2 6,.code (cd29 [1,0,1]),.code p29_2] 11 hp0 (fun hp3 => ?_) fun hp5 => ?_
  ·refine sR 14 [.code (cd29 [1,0,1,0,1]),.code p29_2] ?_
   refine rR (.tuple #[.int .i64 0,.int .i64 0,.bool false]) Tryz.func29 ?_
   cases Option.some.inj hp3
   exact hR _ _ ⟨rfl,hS0⟩
  refine sI 5 [.inRegion (opsOf (cd29 [1,0,0])) [7],.code (cd29 [1,0,1]),.code p29_2] 16 hp5 (fun hp8 => ?_) fun hp10 => ?_
  ·refine sR 9 [.code (cd29 [1,0,1,0,1]),.code p29_2] ?_
   refine rR (.tuple #[.int .i64 0,.int .i64 0,.bool false]) Tryz.func29 ?_
   cases Option.some.inj hp8
   exact hR _ _ ⟨rfl,hS0⟩
  refine sR 16 td308 ?_
  obtain ⟨v11,hv12,hp13⟩:=bind_some' hp10
  have J18 : ∀ (t14 t15 : Int) (he20 : (t14,t15) = v11) (l19 : List Value) (w16 : World) (hS17 : St w0 Z (fs) w16),Runs Tryz.prog (fx 29) td305 (fill (mk 33 [(7,.int .i64 t14),(8,.int .i64 t15)]) l19) w16 R:=by
   intro t14 t15 he20 l19 w16 hS17
   subst he20
   try dsimp only at hp13
   refine sR 8 [.code (cd29 [1,1,1,1,1])] ?_
   refine rR (.tuple #[.int .i64 t14,.int .i64 t15,.bool true]) Tryz.func29 ?_
   cases Option.some.inj hp13
   exact hR _ _ ⟨rfl,hS17⟩
  have L33 : ∀ (t22 t23 t24 : Int) (e28 : (Int × Int)),weirref05_Place.l0 a0 a1 t22 t23 t24 = some e28 → e28 = v11 → ∀ (l27 : List Value) (w25 : World) (hS26 : St w0 Z (fs) w25),Runs Tryz.prog (fx 29) td308 (fill (mk 33 [(0,.string a0),(1,.int .i64 a1),(7,.int .i64 t22),(8,.int .i64 t23),(9,.int .i64 t24)]) l27) w25 R:=by
   refine weirref05_Place.l0.partial_correctness a0 a1 (fun t22 t23 t24 e28 => e28 = v11 → ∀ (l27 : List Value) (w25 : World) (hS26 : St w0 Z (fs) w25),Runs Tryz.prog (fx 29) td308 (fill (mk 33 [(0,.string a0),(1,.int .i64 a1),(7,.int .i64 t22),(8,.int .i64 t23),(9,.int .i64 t24)]) l27) w25 R) ?_
   intro rec32 ih31 t22 t23 t24 e28 hb30 he29 l27 w25 hS26
   refine sI 6 (.inRegion (opsOf (cd29 [1,1,1,0,1,0,0,0,0])) []::.code (cd29 [1,1,1,0,1,0,0,0,1])::.code (cd29 [1,1,1,0,1,0,0,1])::td307) 20 hb30 (fun hp36 => ?_) fun hp43 => ?_
   ·refine sR 15 (.inRegion (opsOf p29_10) [2,3]::.code p29_11::.inBlock 1::.code p29_12::td307) ?_
    obtain ⟨g37,hp38⟩:=ite_some hp36
    refine rV (.index 9 (.tmp 25) (.tmp 26)) (.int .u8 (byt a0 t24)) (fun o ho _ => x_indexStr (kk:=.i64) (by kernel_rfl) (by kernel_rfl) (by kernel_rfl) g37.1 g37.2 ho) ?_
    refine sI 1 (.inRegion (opsOf p29_10) []::.code p29_11::.inBlock 1::.code p29_12::td307) 28 hp38 (fun hp41 => ?_) fun hp42 => ?_
    ·refine sR 17 td307 ?_
     refine sR 1 td308 ?_
     exact rF _ (ih31 (IntKind.i64.wrap (t22 + 1)) 1 (IntKind.i64.wrap (t24 + 1)) _ hp41 he29 _ _ hS26)
    refine sR 9 td307 ?_
    refine sR 1 td308 ?_
    exact rF _ (ih31 (id t22) (IntKind.i64.wrap (t23 + 1)) (IntKind.i64.wrap (t24 + 1)) _ hp42 he29 _ _ hS26)
   refine sR 3 td305 ?_
   exact rF _ (J18 t22 t23 ((Option.some.inj hp43).trans he29) _ _ hS26)
  exact rF _ (L33 1 1 0 _ hv12 rfl _ _ hS0)

noncomputable def cd50 (p : List Nat) : Code := sub (bodyOf Tryz.f50) p
abbrev p50_1:=cd50 [1,1]
def weirref06_reader__bad.f (a0v : weirref06_reader) : Option Bool :=
  (if (a0v.F.Code != 0) = true then some (true) else some (false))
theorem weirref06_reader__bad.ok {a0v : weirref06_reader} {ba0 : Nat} {y7 : Option Addr} {y8 : Nat} {y9 : Option Addr} {y10 : Nat} {q0 : Bool} (hp0 : weirref06_reader__bad.f a0v = some q0) (hS0 : St w0 Z (xblk ba0 122 ([.slice y7 a0v.L.length y8,.int .i64 a0v.At] ++ (enc_api_Token a0v.Last) ++ [.int .i64 a0v.Deep,.slice y9 a0v.C.length y10] ++ (enc_weirref05_Fault a0v.F))::fs) w) (y11 : SlZ (flat enc_api_Token) 7 Z y7 y8 a0v.L) (y12 : SlZ (flat enc_api_Node) 6 Z y9 y10 a0v.C) :
    Calls Tryz.prog 50 #[.pointer (some ⟨ba0,0,none⟩)] w (fun e w' => e = .returned (.bool q0) ∧ St w0 Z (xblk ba0 122 ([.slice y7 a0v.L.length y8,.int .i64 a0v.At] ++ (enc_api_Token a0v.Last) ++ [.int .i64 a0v.Deep,.slice y9 a0v.C.length y10] ++ (enc_weirref05_Fault a0v.F))::fs) w'):=by
  refine calls_abs ?_; intro R hR
  unfold weirref06_reader__bad.f at hp0
  refine calls_of_runs (fn:=Tryz.f50) (c:=cd50 []) Tryz.func50 (by kernel_rfl) (al:=[.pointer (some ⟨ba0,0,none⟩)]) rfl (n:=8) rfl ?_
  refine sR 10 [.inRegion (opsOf (cd50 [1,0])) [4,5,6],.code p50_1] ?_
  refine rL1 3 (.tmp 6) 2 (Cells.mid' (pre:=[.slice y7 a0v.L.length y8] ++ [.int .i64 a0v.At] ++ (enc_api_Token a0v.Last) ++ [.int .i64 a0v.Deep] ++ [.slice y9 a0v.C.length y10]) (cs:=enc_weirref05_Fault a0v.F) (post:=[]) (off:=11) (hS0.blk 0 rfl) (by simp [len_api_Token,len_weirref05_Fault]) (by simp)) ?_
  refine sI 1 [.inRegion (opsOf (cd50 [1,0])) [6],.code p50_1] 8 hp0 (fun hp3 => ?_) fun hp5 => ?_
  ·refine sR 2 [.code p50_1] ?_
   refine rR (.bool true) Tryz.func50 ?_
   cases Option.some.inj hp3
   exact hR _ _ ⟨rfl,hS0⟩
  refine sR 2 [.code p50_1] ?_
  refine rR (.bool false) Tryz.func50 ?_
  cases Option.some.inj hp5
  exact hR _ _ ⟨rfl,hS0⟩

noncomputable def cd79 (p : List Nat) : Code := sub (bodyOf Tryz.f79) p
abbrev p79_2:=cd79 [1,1,0]
abbrev td309:List Item:=[.code (cd79 [1,1,1])]
def weirref06_reader__is.f (a0v : weirref06_reader) (a1 a2 : Int) (a3 : ByteArray) : Option Bool :=
  (weirref06_reader__bad.f a0v >>= (fun t1 => (if (!t1) = true then (if (decide ((IntKind.i64.wrap (a0v.At + a1)) < (a0v.L.length : Int))) = true then (if 0 ≤ (IntKind.i64.wrap (a0v.At + a1)) ∧ (IntKind.i64.wrap (a0v.At + a1)) < (a0v.L.length : Int) then (if (((gt a0v.L (IntKind.i64.wrap (a0v.At + a1))).Kind) == a2) = true then (if 0 ≤ (IntKind.i64.wrap (a0v.At + a1)) ∧ (IntKind.i64.wrap (a0v.At + a1)) < (a0v.L.length : Int) then (if (seq ((gt a0v.L (IntKind.i64.wrap (a0v.At + a1))).Text) a3) = true then some (true) else some (false)) else none) else some (false)) else none) else some (false)) else some (false))))
theorem weirref06_reader__is.ok {a0v : weirref06_reader} {a1 a2 : Int} {a3 : ByteArray} {ba0 : Nat} {y7 : Option Addr} {y8 : Nat} {y9 : Option Addr} {y10 : Nat} {q0 : Bool} (hp0 : weirref06_reader__is.f a0v a1 a2 a3 = some q0) (hS0 : St w0 Z (xblk ba0 122 ([.slice y7 a0v.L.length y8,.int .i64 a0v.At] ++ (enc_api_Token a0v.Last) ++ [.int .i64 a0v.Deep,.slice y9 a0v.C.length y10] ++ (enc_weirref05_Fault a0v.F))::fs) w) (y11 : SlZ (flat enc_api_Token) 7 Z y7 y8 a0v.L) (y12 : SlZ (flat enc_api_Node) 6 Z y9 y10 a0v.C) :
    Calls Tryz.prog 79 #[.pointer (some ⟨ba0,0,none⟩),.int .i64 a1,.int .i64 a2,.string a3] w (fun e w' => e = .returned (.bool q0) ∧ St w0 Z (xblk ba0 122 ([.slice y7 a0v.L.length y8,.int .i64 a0v.At] ++ (enc_api_Token a0v.Last) ++ [.int .i64 a0v.Deep,.slice y9 a0v.C.length y10] ++ (enc_weirref05_Fault a0v.F))::fs) w'):=by
  refine calls_abs ?_; intro R hR
  unfold weirref06_reader__is.f at hp0
  refine calls_of_runs (fn:=Tryz.f79) (c:=cd79 []) Tryz.func79 (by kernel_rfl) (al:=[.pointer (some ⟨ba0,0,none⟩),.int .i64 a1,.int .i64 a2,.string a3]) rfl (n:=48) rfl ?_
  refine sR 9 [iR (cd79 [1,0]) 3 4,.code (cd79 [1,1])] ?_
  refine rL1 3 (.tmp 12) 1 (hS0.blk 0 rfl) ?_
  refine sR 7 (iR p79_2 1 36::td309) ?_
  obtain ⟨t1,hr2,hp3⟩:=bind_some' hp0
  refine rC (weirref06_reader__bad.ok hr2 hS0 y11 y12) ?_
  rintro _ w6 ⟨rfl,hS7⟩
  refine ⟨_,rfl,?_⟩
  refine sI 1 (iR p79_2 3 34::td309) 18 hp3 (fun hp10 => ?_) fun hp39 => ?_
  ·refine sR 5 (iR p79_2 8 29::td309) ?_
   refine rL1 53 (.tmp 23) 0 (hS7.blk 0 rfl) ?_
   refine sI 2 (iR p79_2 11 26::td309) 26 hp10 (fun hp13 => ?_) fun hp37 => ?_
   ·refine sR 5 (iR p79_2 16 21::td309) ?_
    refine rL1 53 (.tmp 31) 0 (hS7.blk 0 rfl) ?_
    refine sR 1 (iR p79_2 18 19::td309) ?_
    obtain ⟨g14,hp15⟩:=ite_some hp13
    obtain ⟨b16,p17,hA18,hc19⟩:=y11.atF g14.1 g14.2
    refine r_indexAddr (c:=p79_2) (i:=18) (d:=(some 34)) (ty:=0) (t:=53) (e:=75) (n:=a0v.L.length) (cp:=y8) (sz:=7) (kk:=.i64) (x:=(.tmp 32)) (y:=(.tmp 33)) (b:=b16) (o':=p17) (j:=(IntKind.i64.wrap (a0v.At + a1))) (by kernel_rfl) (by kernel_rfl) (slv (by kernel_rfl) hA18) (by kernel_rfl) (by kernel_rfl) (by kernel_rfl) g14.1 g14.2 ?_
    refine sR 1 (iR p79_2 20 17::td309) ?_
    refine rL1 3 (.tmp 35) 0 (hc19.cells hS7) ?_
    refine sI 2 (iR p79_2 23 14::td309) 38 hp15 (fun hp22 => ?_) fun hp35 => ?_
    ·refine sR 5 (iR p79_2 28 9::td309) ?_
     refine rL1 53 (.tmp 43) 0 (hS7.blk 0 rfl) ?_
     refine sR 1 (iR p79_2 30 7::td309) ?_
     obtain ⟨g23,hp24⟩:=ite_some hp22
     obtain ⟨b25,p26,hA27,hc28⟩:=y11.atF g23.1 g23.2
     refine r_indexAddr (c:=p79_2) (i:=30) (d:=(some 46)) (ty:=0) (t:=53) (e:=75) (n:=a0v.L.length) (cp:=y8) (sz:=7) (kk:=.i64) (x:=(.tmp 44)) (y:=(.tmp 45)) (b:=b25) (o':=p26) (j:=(IntKind.i64.wrap (a0v.At + a1))) (by kernel_rfl) (by kernel_rfl) (slv (by kernel_rfl) hA27) (by kernel_rfl) (by kernel_rfl) (by kernel_rfl) g23.1 g23.2 ?_
     refine sR 1 (iR p79_2 32 5::td309) ?_
     refine rL1 9 (.tmp 47) 1 (hc28.cells hS7) ?_
     refine sI 2 (.inRegion (opsOf p79_2) [35,36]::td309) 50 hp24 (fun hp31 => ?_) fun hp33 => ?_
     ·refine sR 3 td309 ?_
      refine rR (.bool true) Tryz.func79 ?_
      cases Option.some.inj hp31
      exact hR _ _ ⟨rfl,hS7⟩
     refine sR 3 td309 ?_
     refine rR (.bool false) Tryz.func79 ?_
     cases Option.some.inj hp33
     exact hR _ _ ⟨rfl,hS7⟩
    refine sR 15 td309 ?_
    refine rR (.bool false) Tryz.func79 ?_
    cases Option.some.inj hp35
    exact hR _ _ ⟨rfl,hS7⟩
   refine sR 27 td309 ?_
   refine rR (.bool false) Tryz.func79 ?_
   cases Option.some.inj hp37
   exact hR _ _ ⟨rfl,hS7⟩
  refine sR 35 td309 ?_
  refine rR (.bool false) Tryz.func79 ?_
  cases Option.some.inj hp39
  exact hR _ _ ⟨rfl,hS7⟩

noncomputable def cd80 (p : List Nat) : Code := sub (bodyOf Tryz.f80) p
abbrev p80_2:=cd80 [1,0,0]
abbrev p80_7:=cd80 [1,1,0]
abbrev td310:List Item:=[.code (cd80 [1,0,1,0,1]),.code (cd80 [1,1])]
def weirref06_reader__take.f (a0v : weirref06_reader) : Option (api_Token × Int × api_Token) :=
  (weirref06_reader__bad.f a0v >>= (fun t5 => (if t5 = true then some (((⟨0,(⟨#[]⟩ : ByteArray),0,0,0,0,0⟩ : api_Token),a0v.At,a0v.Last)) else (if (decide (a0v.At ≥ (a0v.L.length : Int))) = true then some (((⟨0,(⟨#[]⟩ : ByteArray),0,0,0,0,0⟩ : api_Token),a0v.At,a0v.Last)) else (if 0 ≤ a0v.At ∧ a0v.At < (a0v.L.length : Int) then some (((gt a0v.L a0v.At),(IntKind.i64.wrap (a0v.At + 1)),(gt a0v.L a0v.At))) else none)))))
theorem weirref06_reader__take.ok {a0v : weirref06_reader} {ba0 : Nat} {y7 : Option Addr} {y8 : Nat} {y9 : Option Addr} {y10 : Nat} {q0 : api_Token} {q1 : Int} {q2 : api_Token} (hp0 : weirref06_reader__take.f a0v = some (q0,q1,q2)) (hS0 : St w0 Z (xblk ba0 122 ([.slice y7 a0v.L.length y8,.int .i64 a0v.At] ++ (enc_api_Token a0v.Last) ++ [.int .i64 a0v.Deep,.slice y9 a0v.C.length y10] ++ (enc_weirref05_Fault a0v.F))::fs) w) (y11 : SlZ (flat enc_api_Token) 7 Z y7 y8 a0v.L) (y12 : SlZ (flat enc_api_Node) 6 Z y9 y10 a0v.C) :
    Calls Tryz.prog 80 #[.pointer (some ⟨ba0,0,none⟩)] w (fun e w' => e = .returned (.agg (enc_api_Token q0).toArray) ∧ St w0 Z (xblk ba0 122 ([.slice y7 a0v.L.length y8,.int .i64 q1] ++ (enc_api_Token q2) ++ [.int .i64 a0v.Deep,.slice y9 a0v.C.length y10] ++ (enc_weirref05_Fault a0v.F))::fs) w'):=by
  refine calls_abs ?_; intro R hR
  unfold weirref06_reader__take.f at hp0
  refine calls_of_runs (fn:=Tryz.f80) (c:=cd80 []) Tryz.func80 (by kernel_rfl) (al:=[.pointer (some ⟨ba0,0,none⟩)]) rfl (n:=41) rfl ?_
  refine sR 2 [.inRegion (opsOf (cd80 [0])) [0],.code (cd80 [1])] ?_
  refine rA 75 (.agg (enc_api_Token (⟨0,(⟨#[]⟩ : ByteArray),0,0,0,0,0⟩ : api_Token)).toArray) (enc_api_Token (⟨0,(⟨#[]⟩ : ByteArray),0,0,0,0,0⟩ : api_Token)) hS0 ?_
  intro b1 w2 hS3
  refine sR 3 [.code p80_2,.code (cd80 [1,0,1]),.code (cd80 [1,1])] ?_
  refine r_quiet hS3 (c:=p80_2) (id:=1) (by kernel_rfl) (by kernel_rfl) (by kernel_rfl) (is:=[0,1,2,3,4,5,6,7,8,9,10,11,12,13]) (by kernel_rfl) ?_
  refine qR 1 (rg 1 13) ?_
  obtain ⟨t5,hr6,hp7⟩:=bind_some' hp0
  refine q_call1 (c:=p80_2) (i:=1) (d:=(some 4)) (v:=.bool t5) (g:=50) (args:=#[.pointer (some ⟨ba0,0,none⟩)]) (by kernel_rfl) (by kernel_rfl) (by kernel_rfl) (by kernel_rfl) (fun w hC => by
   have hS10:=hC.pick1
   refine (weirref06_reader__bad.ok hr6 hS10 y11 y12).mono ?_
   rintro e w2 ⟨rfl,h2⟩
   have hS11:=h2.pick1
   exact ⟨rfl,hS11⟩) ?_
  refine qR 1 (rg 3 11) ?_
  cases t5
  ·have hp12:=ite_f hp7 rfl
   refine qR 3 (rg 6 8) ?_
   refine qL1 3 (.tmp 8) 1 (fun w hC => (hC.blk 1 rfl)) ?_
   refine qR 3 (rg 10 4) ?_
   refine qL1 53 (.tmp 12) 0 (fun w hC => (hC.blk 1 rfl)) ?_
   refine qI 2 [13] 15 hp12 (fun hp15 => ?_) fun hp22 => ?_
   ·refine qR 1 [] ?_
    refine Qs.nil ?_
    intro w16 hS17
    refine sR 4 (.inRegion (opsOf (cd80 [1,0,1,0,0])) [1]::td310) ?_
    refine rSA 75 (.tmp 2) (.tmp 17) (enc_api_Token (⟨0,(⟨#[]⟩ : ByteArray),0,0,0,0,0⟩ : api_Token)) hS17 (one_api_Token _) ?_
    intro w18 hS19
    refine sR 1 td310 ?_
    have hS20:=hS19.drop
    refine rRc (.agg (enc_api_Token (⟨0,(⟨#[]⟩ : ByteArray),0,0,0,0,0⟩ : api_Token)).toArray) (.ca 2 75 (hS19.blk 0 rfl) .nil) Tryz.func80 ?_
    cases Option.some.inj hp15
    exact hR _ _ ⟨rfl,hS20⟩
   refine qR 1 [] ?_
   refine Qs.nil ?_
   intro w23 hS24
   refine sR 3 [.code p80_7,.code (cd80 [1,1,1])] ?_
   refine r_drawn3 (C:=St w0 Z (xblk b1 75 (enc_api_Token (⟨0,(⟨#[]⟩ : ByteArray),0,0,0,0,0⟩ : api_Token))::xblk ba0 122 ([.slice y7 a0v.L.length y8,.int .i64 a0v.At] ++ (enc_api_Token a0v.Last) ++ [.int .i64 a0v.Deep,.slice y9 a0v.C.length y10] ++ (enc_weirref05_Fault a0v.F))::fs)) (c:=p80_7) (id:=3) (by kernel_rfl) (by kernel_rfl) 13 (Nat.le_of_ble_eq_true (by kernel_rfl)) (by kernel_rfl) (by kernel_rfl) (by kernel_rfl) (is:=[0,1,2,3,4,5,6,7,8,9,10,11,12]) (rest:=[13]) (by kernel_rfl) (by kernel_rfl) hS24.drew ?_
   refine qR 4 (rg 4 9) ?_
   refine qL1 53 (.tmp 21) 0 (fun w hC => (hC.blk 1 rfl)) ?_
   refine qR 3 (rg 8 5) ?_
   refine qL1 3 (.tmp 25) 1 (fun w hC => (hC.blk 1 rfl)) ?_
   obtain ⟨g25,hp26⟩:=ite_some hp22
   obtain ⟨b27,p28,hA29,hc30⟩:=y11.atF g25.1 g25.2
   refine q_indexAddr (c:=(hd p80_7 13)) (i:=9) (d:=(some 27)) (ty:=0) (t:=53) (e:=75) (n:=a0v.L.length) (cp:=y8) (sz:=7) (kk:=.i64) (x:=(.tmp 22)) (y:=(.tmp 26)) (b:=b27) (o':=p28) (j:=a0v.At) (by kernel_rfl) (by kernel_rfl) (slv (by kernel_rfl) hA29) (by kernel_rfl) (by kernel_rfl) (by kernel_rfl) g25.1 g25.2 ?_
   refine qLa 75 (.tmp 27) (fun w hC => (hc30.cells hC)) ?_
   refine qR 2 [] ?_
   refine Qs.nil ?_
   intro w31 hS32
   have hS33:=hS32.pick1
   refine rSG 75 (.tmp 30) (.tmp 28) 2 (.agg (enc_api_Token (gt a0v.L a0v.At)).toArray) (enc_api_Token (gt a0v.L a0v.At)) ([.slice y7 a0v.L.length y8,.int .i64 a0v.At] ++ (enc_api_Token (gt a0v.L a0v.At)) ++ [.int .i64 a0v.Deep,.slice y9 a0v.C.length y10] ++ (enc_weirref05_Fault a0v.F)) hS33 (one_api_Token _) ?_
   intro w34 hS35
   refine sR 6 [iR (cd80 [1,1,1,0]) 3 5,.code (cd80 [1,1,1,1])] ?_
   refine rL1 3 (.tmp 33) 1 (hS35.blk 0 rfl) ?_
   refine sR 3 [.inRegion (opsOf (cd80 [1,1,1,0])) [7],.code (cd80 [1,1,1,1])] ?_
   refine rS 3 (.tmp 37) (.tmp 35) 1 (.int .i64 (IntKind.i64.wrap (a0v.At + 1))) [.int .i64 (IntKind.i64.wrap (a0v.At + 1))] ([.slice y7 a0v.L.length y8,.int .i64 (IntKind.i64.wrap (a0v.At + 1))] ++ (enc_api_Token (gt a0v.L a0v.At)) ++ [.int .i64 a0v.Deep,.slice y9 a0v.C.length y10] ++ (enc_weirref05_Fault a0v.F)) hS35 ?_
   intro w36 hS37
   refine sR 6 [.inRegion (opsOf (cd80 [1,1,1,1,0])) [3,4],.code (cd80 [1,1,1,1,1])] ?_
   refine rLa 75 (.tmp 40) (Cells.mid' (pre:=[.slice y7 a0v.L.length y8] ++ [.int .i64 (IntKind.i64.wrap (a0v.At + 1))]) (cs:=enc_api_Token (gt a0v.L a0v.At)) (post:=[.int .i64 a0v.Deep] ++ [.slice y9 a0v.C.length y10] ++ (enc_weirref05_Fault a0v.F)) (off:=2) (hS37.blk 0 rfl) (by simp [len_api_Token,len_weirref05_Fault]) (by simp)) ?_
   have hS38:=hS37.pick1
   refine rSA 75 (.tmp 2) (.tmp 41) (enc_api_Token (gt a0v.L a0v.At)) hS38 (one_api_Token _) ?_
   intro w39 hS40
   refine sR 1 [.code (cd80 [1,1,1,1,1])] ?_
   have hS41:=hS40.drop
   refine rRc (.agg (enc_api_Token (gt a0v.L a0v.At)).toArray) (.ca 2 75 (hS40.blk 0 rfl) .nil) Tryz.func80 ?_
   cases Option.some.inj hp26
   exact hR _ _ ⟨rfl,hS41⟩
  have hp43:=ite_t hp7 rfl
  refine qR 11 [] ?_
  refine Qs.nil ?_
  intro w44 hS45
  refine sR 4 (.inRegion (opsOf (cd80 [1,0,1,0,0])) [1]::td310) ?_
  refine rSA 75 (.tmp 2) (.tmp 17) (enc_api_Token (⟨0,(⟨#[]⟩ : ByteArray),0,0,0,0,0⟩ : api_Token)) hS45 (one_api_Token _) ?_
  intro w46 hS47
  refine sR 1 td310 ?_
  have hS48:=hS47.drop
  refine rRc (.agg (enc_api_Token (⟨0,(⟨#[]⟩ : ByteArray),0,0,0,0,0⟩ : api_Token)).toArray) (.ca 2 75 (hS47.blk 0 rfl) .nil) Tryz.func80 ?_
  cases Option.some.inj hp43
  exact hR _ _ ⟨rfl,hS48⟩

end
end Go.Proofs.YtboejepakdnbgaaGreatDoor.K
