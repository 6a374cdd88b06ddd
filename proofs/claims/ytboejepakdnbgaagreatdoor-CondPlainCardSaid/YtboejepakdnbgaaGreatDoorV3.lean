/- The walk, part 3: each Go function as a plain Lean function, and that its call answers as that function says. No condition. -/
import Derived.Test.YtboejepakdnbgaaGreatDoorE
import Derived.Test.YtboejepakdnbgaaGreatDoorNG
import Derived.Test.YtboejepakdnbgaaGreatDoorNP
import Derived.Test.YtboejepakdnbgaaGreatDoorNI
import Derived.Test.YtboejepakdnbgaaGreatDoorNV
import Derived.Test.YtboejepakdnbgaaGreatDoorNX
import Derived.Test.YtboejepakdnbgaaGreatDoorNY
import Derived.Test.YtboejepakdnbgaaGreatDoorNC
import Derived.Test.YtboejepakdnbgaaGreatDoorNF
import Derived.Test.YtboejepakdnbgaaGreatDoorNB
import Derived.Test.YtboejepakdnbgaaGreatDoorNS
import Derived.Test.YtboejepakdnbgaaGreatDoorV2
set_option linter.unusedVariables false
set_option linter.unusedSimpArgs false
set_option maxRecDepth 100000
namespace Go.Proofs.YtboejepakdnbgaaGreatDoor.K
open Go Go.RowKit
noncomputable section
set_option maxHeartbeats 16000000
variable {w0 : World} {Z : Zm} {fs : List XObj} {w : World}
noncomputable def cd27 (p : List Nat) : Code := sub (bodyOf Tryz.f27) p
abbrev td179:List Item:=[.code (cd27 [1,1])]
abbrev td180:List Item:=.code (cd27 [1,0,1,0,1])::td179
def cond_Take.f (a0 : List api_Token) (a1 : Int) : Option ((List api_Node) × Int × PErr) :=
  (if (decide (a1 < 0)) = true then some (([],0,(.num 4))) else (if (decide (a1 > (a0.length : Int))) = true then some (([],0,(.num 4))) else (cond_reader__cond_2.f (cond_reader__not.f fuelN) (⟨a0,a1,(⟨0,(⟨#[]⟩ : ByteArray),0,0,0,0,0⟩ : api_Token),0,([] : List api_Node)⟩ : cond_reader) >>= (fun | .inl pe75 => (cond_Take_1.f ([] : List api_Node) 0 pe75 >>= (fun (t86,t87,t88) => some ((t86,t87,t88)))) | .inr (t65,t66,t67,t68,t69) => (cond_Take_1_1.f t69 t66 >>= (fun _ => some ((t69,t66,.nil))))))))
theorem cond_Take.ok {a0 : List api_Token} {a1 : Int} {Aa0 : Option Addr} {ca0 : Nat} {q0 : List api_Node} {q1 : Int} {q2 : PErr} (hp0 : cond_Take.f a0 a1 = some (q0,q1,q2)) (hS0 : St w0 Z (fs) w) (ha0 : SlZ (flat enc_api_Token) 7 Z Aa0 ca0 a0) (hE : Env Z) :
    Calls Tryz.prog 27 #[.slice Aa0 a0.length ca0,.int .i64 a1] w (fun e w' => ∃ (QA0 : Option Addr) (Qc0 : Nat) (Qv2 : Value) (Z' : Zm),Zm.Le Z Z' ∧ e = .returned (.tuple #[.slice QA0 q0.length Qc0,.int .i64 q1,Qv2]) ∧ St w0 Z' (xrow QA0 Qc0 68 6 (q0.flatMap enc_api_Node)::fs) w' ∧ RepE 37 78 Z' Qv2 q2):=by
  refine calls_abs ?_; intro R hR
  unfold cond_Take.f at hp0
  refine calls_of_runs (fn:=Tryz.f27) (c:=cd27 []) Tryz.func27 (by kernel_rfl) (al:=[.slice Aa0 a0.length ca0,.int .i64 a1]) rfl (n:=30) rfl ?_
  refine sR 2 [.inRegion (opsOf (cd27 [0])) [0,1,2],.code (cd27 [1])] ?_
  refine rA 23 (.slice none 0 0) [.slice none 0 0] hS0 ?_
  intro b1 w2 hS3
  refine rA 3 (.int .i64 0) [.int .i64 0] hS3 ?_
  intro b5 w6 hS7
  refine rA 25 .nilIface [.nilIface] hS7 ?_
  intro b9 w10 hS11
  refine sI 6 (iR (cd27 [1,0,0]) 2 6::.code (cd27 [1,0,1])::td179) 9 hp0 (fun hp15 => ?_) fun hp35 => ?_
  ·refine sR 11 (.inRegion (opsOf (cd27 [1,0,1,0,0])) [1,2,3]::td180) ?_
   have hS16:=hS11.pick2
   refine rS 23 (.tmp 4) (.const (.slice none 0 0)) 0 (.slice none 0 0) [.slice none 0 0] [.slice none 0 0] hS16 ?_
   intro w17 hS18
   have hS19:=hS18.pick2
   refine rS 3 (.tmp 5) (.const (.int .i64 0)) 0 (.int .i64 0) [.int .i64 0] [.int .i64 0] hS19 ?_
   intro w20 hS21
   have hS22:=hS21.pick2
   refine rS 25 (.tmp 6) (.tmp 16) 0 (.iface 37 (.int .i64 4)) [.iface 37 (.int .i64 4)] [.iface 37 (.int .i64 4)] hS22 ?_
   intro w23 hS24
   refine sR 1 td180 ?_
   have hS26:=hS24.nilrow none 68 6
   have hS28:=hS26.pick1
   have hS29:=hS28.drop
   have hS30:=hS29.pick1
   have hS31:=hS30.drop
   have hS32:=hS31.pick1
   have hS33:=hS32.drop
   refine runs_ret (fn:=Tryz.f27) (v:=.tuple #[.slice none 0 0,.int .i64 0,.iface 37 (.int .i64 4)]) Tryz.func27 (resl_run (fn:=Tryz.f27) (by kernel_rfl) (.cell (t:=4) (ty:=23) (by kernel_rfl) (loads_at 0 (hS24.blk 2 rfl) (by kernel_rfl) (by kernel_rfl)) (.cell (t:=5) (ty:=3) (by kernel_rfl) (loads_at 0 (hS24.blk 1 rfl) (by kernel_rfl) (by kernel_rfl)) (.cell (t:=6) (ty:=25) (by kernel_rfl) (loads_at 0 (hS24.blk 0 rfl) (by kernel_rfl) (by kernel_rfl)) .nil)))) ?_
   cases Option.some.inj hp15
   exact hR _ _ ⟨none,0,(.iface 37 (.int .i64 4)),Z,(Zm.Le.refl _),rfl,hS33,(RepE.of_num)⟩
  refine sI 5 (.inRegion (opsOf (cd27 [1,0,0])) [7]::.code (cd27 [1,0,1])::td179) 14 hp35 (fun hp38 => ?_) fun hp58 => ?_
  ·refine sR 6 (.inRegion (opsOf (cd27 [1,0,1,0,0])) [1,2,3]::td180) ?_
   have hS39:=hS11.pick2
   refine rS 23 (.tmp 4) (.const (.slice none 0 0)) 0 (.slice none 0 0) [.slice none 0 0] [.slice none 0 0] hS39 ?_
   intro w40 hS41
   have hS42:=hS41.pick2
   refine rS 3 (.tmp 5) (.const (.int .i64 0)) 0 (.int .i64 0) [.int .i64 0] [.int .i64 0] hS42 ?_
   intro w43 hS44
   have hS45:=hS44.pick2
   refine rS 25 (.tmp 6) (.tmp 16) 0 (.iface 37 (.int .i64 4)) [.iface 37 (.int .i64 4)] [.iface 37 (.int .i64 4)] hS45 ?_
   intro w46 hS47
   refine sR 1 td180 ?_
   have hS49:=hS47.nilrow none 68 6
   have hS51:=hS49.pick1
   have hS52:=hS51.drop
   have hS53:=hS52.pick1
   have hS54:=hS53.drop
   have hS55:=hS54.pick1
   have hS56:=hS55.drop
   refine runs_ret (fn:=Tryz.f27) (v:=.tuple #[.slice none 0 0,.int .i64 0,.iface 37 (.int .i64 4)]) Tryz.func27 (resl_run (fn:=Tryz.f27) (by kernel_rfl) (.cell (t:=4) (ty:=23) (by kernel_rfl) (loads_at 0 (hS47.blk 2 rfl) (by kernel_rfl) (by kernel_rfl)) (.cell (t:=5) (ty:=3) (by kernel_rfl) (loads_at 0 (hS47.blk 1 rfl) (by kernel_rfl) (by kernel_rfl)) (.cell (t:=6) (ty:=25) (by kernel_rfl) (loads_at 0 (hS47.blk 0 rfl) (by kernel_rfl) (by kernel_rfl)) .nil)))) ?_
   cases Option.some.inj hp38
   exact hR _ _ ⟨none,0,(.iface 37 (.int .i64 4)),Z,(Zm.Le.refl _),rfl,hS56,(RepE.of_num)⟩
  refine sR 7 [.inRegion (opsOf (cd27 [1,1,0])) [1],.code (cd27 [1,1,1])] ?_
  refine r_defer (c:=(cd27 [1,1,0])) (i:=1) (d:=none) (dd:={ target:=.fn (.func 45) #[.pointer (some ⟨b1,0,none⟩),.pointer (some ⟨b5,0,none⟩),.pointer (some ⟨b9,0,none⟩)],args:=#[] }) (by kernel_rfl) (by kernel_rfl) (by kernel_rfl) (by kernel_rfl) ?_
  refine sR 6 [.inRegion (opsOf (cd27 [1,1,1,0])) [3,4],.code (cd27 [1,1,1,1])] ?_
  refine r_box (c:=(cd27 [1,1,1,0])) (i:=3) (d:=(some 21)) (ty:=112) (x:=(.tmp 20)) (v:=.agg ([.slice Aa0 a0.length ca0,.int .i64 a1] ++ (enc_api_Token (⟨0,(⟨#[]⟩ : ByteArray),0,0,0,0,0⟩ : api_Token)) ++ [.int .i64 0,.slice none 0 0] : List Value).toArray) (t:=114) (cs:=[.slice Aa0 a0.length ca0,.int .i64 a1] ++ (enc_api_Token (⟨0,(⟨#[]⟩ : ByteArray),0,0,0,0,0⟩ : api_Token)) ++ [.int .i64 0,.slice none 0 0]) hS11 (by kernel_rfl) (by kernel_rfl) (by kernel_rfl) (by kernel_rfl) ?_
  intro b59 w60 hS61
  refine sR 5 [.inRegion (opsOf (cd27 [1,1,1,1,0])) [1],.code (cd27 [1,1,1,1,1])] ?_
  have hS64:=hS61.nilrow none 68 6
  obtain ⟨q74,hr72,hp73⟩:=bind_some' hp58
  have hS79:=hS64.pick1
  refine rCB (cond_reader__cond_2.ok (cond_reader__not.f fuelN) cond_reader__not.ok hr72 hS79 ha0 hE) ?_
  intro e78 w77 hQ76
  rcases q74 with pe75 | ⟨t65,t66,t67,t68,t69⟩
  all_goals try dsimp only at hp73
  ·obtain ⟨v80,Z81,hz82,rfl,hS83,he84⟩:=hQ76
   refine .inr ⟨_,rfl,?_⟩
   refine raised_ds Tryz.func27 ?_
   obtain ⟨⟨t86,t87,t88⟩,hr92,hp93⟩:=bind_some' hp73
   try dsimp only at hp93
   have hS96:=hS83.pick1
   have hS97:=hS96.pick2
   refine leaves_one (fun h => nomatch h) (by kernel_rfl) rfl (cond_Take_1.ok ([] : List api_Node) 0 pe75 b1 none 0 b5 b9 v80 hS97 (SlZ.nil _ _ _ _ _) he84 hr92) ?_
   rintro _ w98 ⟨Q89,Q90,Q91,rfl,hS99,hs100⟩
   refine ⟨⟨_,rfl⟩,?_⟩
   have hS101:=hS99.pick1
   have hS102:=hS101.drop
   have hS103:=hS102.pick1
   have hS104:=hS103.drop
   have hS105:=hS104.pick1
   have hS106:=hS105.drop
   refine leaves_nil (v:=.tuple #[.slice Q89 t86.length Q90,.int .i64 t87,Q91]) (resl_run (fn:=Tryz.f27) (by kernel_rfl) (.cell (t:=4) (ty:=23) (by kernel_rfl) (loads_at 0 (hS99.blk 1 rfl) (by kernel_rfl) (by kernel_rfl)) (.cell (t:=5) (ty:=3) (by kernel_rfl) (loads_at 0 (hS99.blk 2 rfl) (by kernel_rfl) (by kernel_rfl)) (.cell (t:=6) (ty:=25) (by kernel_rfl) (loads_at 0 (hS99.blk 3 rfl) (by kernel_rfl) (by kernel_rfl)) .nil)))) ?_
   cases Option.some.inj hp93
   exact hR _ _ ⟨Q89,Q90,Q91,Z81,hz82,rfl,hS106,hs100⟩
  obtain ⟨Q70,Q71,rfl,hS109⟩:=hQ76
  try dsimp only at hS109
  refine .inl ⟨_,rfl,?_⟩
  refine sR 2 [.code (cd27 [1,1,1,1,1,0]),.code (cd27 [1,1,1,1,1,1])] ?_
  refine r_drawnG (S:=Option (Unit × Option (Unit × Option Unit))) (rank:=(fun st => match st with | none => 0 | some (x110,none) => 1 | some (x110,some (x111,none)) => 2 | some (x110,some (x111,some x112)) => 3)) (C:=(fun st w' => match st with | none => St w0 Z (xrow Q70 Q71 68 6 (t69.flatMap enc_api_Node)::xblk b59 114 ([.slice Aa0 a0.length ca0,.int .i64 t66] ++ (enc_api_Token t67) ++ [.int .i64 t68,.slice Q70 t69.length Q71])::xblk b9 25 ([.nilIface])::xblk b5 3 ([.int .i64 0])::xblk b1 23 ([.slice none 0 0])::fs) w' | some (x110,none) => St w0 Z (xblk b1 23 ([.slice Q70 t69.length Q71])::xrow Q70 Q71 68 6 (t69.flatMap enc_api_Node)::xblk b59 114 ([.slice Aa0 a0.length ca0,.int .i64 t66] ++ (enc_api_Token t67) ++ [.int .i64 t68,.slice Q70 t69.length Q71])::xblk b9 25 ([.nilIface])::xblk b5 3 ([.int .i64 0])::fs) w' | some (x110,some (x111,none)) => St w0 Z (xblk b5 3 ([.int .i64 t66])::xblk b1 23 ([.slice Q70 t69.length Q71])::xrow Q70 Q71 68 6 (t69.flatMap enc_api_Node)::xblk b59 114 ([.slice Aa0 a0.length ca0,.int .i64 t66] ++ (enc_api_Token t67) ++ [.int .i64 t68,.slice Q70 t69.length Q71])::xblk b9 25 ([.nilIface])::fs) w' | some (x110,some (x111,some x112)) => St w0 Z (xblk b9 25 ([.nilIface])::xblk b5 3 ([.int .i64 t66])::xblk b1 23 ([.slice Q70 t69.length Q71])::xrow Q70 Q71 68 6 (t69.flatMap enc_api_Node)::xblk b59 114 ([.slice Aa0 a0.length ca0,.int .i64 t66] ++ (enc_api_Token t67) ++ [.int .i64 t68,.slice Q70 t69.length Q71])::fs) w')) (v:=(fun st => match st with | none => [.pointer (some ⟨b59,0,none⟩),.pointer (some ⟨b59,0,none⟩),.pointer (some ⟨b59,10,none⟩),.slice Q70 t69.length Q71,.pointer (some ⟨b59,0,none⟩),.pointer (some ⟨b59,0,none⟩),.pointer (some ⟨b59,1,none⟩),.int .i64 t66,undef,undef,undef] | some (x110,none) => [.pointer (some ⟨b59,0,none⟩),.pointer (some ⟨b59,0,none⟩),.pointer (some ⟨b59,10,none⟩),.slice Q70 t69.length Q71,.pointer (some ⟨b59,0,none⟩),.pointer (some ⟨b59,0,none⟩),.pointer (some ⟨b59,1,none⟩),.int .i64 t66,undef,undef,undef] | some (x110,some (x111,none)) => [.pointer (some ⟨b59,0,none⟩),.pointer (some ⟨b59,0,none⟩),.pointer (some ⟨b59,10,none⟩),.slice Q70 t69.length Q71,.pointer (some ⟨b59,0,none⟩),.pointer (some ⟨b59,0,none⟩),.pointer (some ⟨b59,1,none⟩),.int .i64 t66,undef,undef,undef] | some (x110,some (x111,some x112)) => [.pointer (some ⟨b59,0,none⟩),.pointer (some ⟨b59,0,none⟩),.pointer (some ⟨b59,10,none⟩),.slice Q70 t69.length Q71,.pointer (some ⟨b59,0,none⟩),.pointer (some ⟨b59,0,none⟩),.pointer (some ⟨b59,1,none⟩),.int .i64 t66,undef,undef,undef])) (c:=(cd27 [1,1,1,1,1,0])) (id:=6) none 8 11 [8,9,10] [0,0,0,0,0,0,0,0,0,1,2] [0,0,0,0,1,1,1,1,1,2,3] [] (by kernel_rfl) (by kernel_rfl) (by kernel_rfl) (by kernel_rfl) (by kernel_rfl) (by kernel_rfl) (by kernel_rfl) (by kernel_rfl) (by kernel_rfl) (by kernel_rfl) rfl hS109.drew ?_ ?_ ?_ ?_
  ·intro st w hC
   rcases st with _ | ⟨x110,_ | ⟨x111,_ | x112⟩⟩
   ·exact nbl rfl
   ·exact nbl rfl
   ·exact nbl rfl
   ·exact nbl rfl
  ·intro i hi he st w hC hr hu
   match i,hi,he with
   | 0,_,_ =>
    rcases st with _ | ⟨x110,_ | ⟨x111,_ | x112⟩⟩
    ·dsimp only at hC
     exact dP (.pointer (some ⟨b59,0,none⟩)) hC
    ·exact absurd hu (nle rfl)
    ·exact absurd hu (nle rfl)
    ·exact absurd hu (nle rfl)
   | 1,_,_ =>
    rcases st with _ | ⟨x110,_ | ⟨x111,_ | x112⟩⟩
    ·dsimp only at hC
     exact dP (.pointer (some ⟨b59,0,none⟩)) hC
    ·exact absurd hu (nle rfl)
    ·exact absurd hu (nle rfl)
    ·exact absurd hu (nle rfl)
   | 2,_,_ =>
    rcases st with _ | ⟨x110,_ | ⟨x111,_ | x112⟩⟩
    ·dsimp only at hC
     exact dP (.pointer (some ⟨b59,10,none⟩)) hC
    ·exact absurd hu (nle rfl)
    ·exact absurd hu (nle rfl)
    ·exact absurd hu (nle rfl)
   | 3,_,_ =>
    rcases st with _ | ⟨x110,_ | ⟨x111,_ | x112⟩⟩
    ·dsimp only at hC
     exact does_run (x_load (t:=23) (x:=(.tmp 26)) (p:=⟨b59,10,none⟩) (v:=.slice Q70 t69.length Q71) (by kernel_rfl) (loads_at 10 (hC.blk 1 rfl) (by kernel_rfl) (by kernel_rfl)) (by kernel_rfl)) rfl hC
    ·exact absurd hu (nle rfl)
    ·exact absurd hu (nle rfl)
    ·exact absurd hu (nle rfl)
   | 4,_,_ =>
    rcases st with _ | ⟨x110,_ | ⟨x111,_ | x112⟩⟩
    ·dsimp only at hC
     exact dP (.pointer (some ⟨b59,0,none⟩)) hC
    ·dsimp only at hC
     exact dP (.pointer (some ⟨b59,0,none⟩)) hC
    ·exact absurd hu (nle rfl)
    ·exact absurd hu (nle rfl)
   | 5,_,_ =>
    rcases st with _ | ⟨x110,_ | ⟨x111,_ | x112⟩⟩
    ·dsimp only at hC
     exact dP (.pointer (some ⟨b59,0,none⟩)) hC
    ·dsimp only at hC
     exact dP (.pointer (some ⟨b59,0,none⟩)) hC
    ·exact absurd hu (nle rfl)
    ·exact absurd hu (nle rfl)
   | 6,_,_ =>
    rcases st with _ | ⟨x110,_ | ⟨x111,_ | x112⟩⟩
    ·dsimp only at hC
     exact dP (.pointer (some ⟨b59,1,none⟩)) hC
    ·dsimp only at hC
     exact dP (.pointer (some ⟨b59,1,none⟩)) hC
    ·exact absurd hu (nle rfl)
    ·exact absurd hu (nle rfl)
   | 7,_,_ =>
    rcases st with _ | ⟨x110,_ | ⟨x111,_ | x112⟩⟩
    ·dsimp only at hC
     exact does_run (x_load (t:=3) (x:=(.tmp 30)) (p:=⟨b59,1,none⟩) (v:=.int .i64 t66) (by kernel_rfl) (loads_at 1 (hC.blk 1 rfl) (by kernel_rfl) (by kernel_rfl)) (by kernel_rfl)) rfl hC
    ·dsimp only at hC
     exact does_run (x_load (t:=3) (x:=(.tmp 30)) (p:=⟨b59,1,none⟩) (v:=.int .i64 t66) (by kernel_rfl) (loads_at 1 (hC.blk 2 rfl) (by kernel_rfl) (by kernel_rfl)) (by kernel_rfl)) rfl hC
    ·exact absurd hu (nle rfl)
    ·exact absurd hu (nle rfl)
   | 8,_,he => exact absurd he (by decide)
   | 9,_,he => exact absurd he (by decide)
   | 10,_,he => exact absurd he (by decide)
   | i + 11,hi,_ => exact absurd hi (by omega)
  ·intro k hk st w hC hr
   match k,hk with
   | 0,_ =>
    rcases st with _ | ⟨x110,_ | ⟨x111,_ | x112⟩⟩
    ·dsimp only at hC
     have hC:=hC.pick4
     refine dS 23 (.tmp 4) (.tmp 27) 0 (.slice Q70 t69.length Q71) [.slice Q70 t69.length Q71] [.slice Q70 t69.length Q71] hC ?_
     intro w2 h2
     refine ⟨some ((),none),rfl,?_,.inl rfl,h2⟩
     intro j hj
     match j,hj with
     | 0,_ => exact rfl
     | 1,_ => exact rfl
     | 2,_ => exact rfl
     | 3,_ => exact rfl
     | 4,_ => exact rfl
     | 5,_ => exact rfl
     | 6,_ => exact rfl
     | 7,_ => exact rfl
     | 8,hj => exact absurd hj (by decide)
     | 9,hj => exact absurd hj (by decide)
     | 10,hj => exact absurd hj (by decide)
     | j + 11,_ => exact rfl
    ·exact absurd hr (Nat.ne_of_beq_eq_false rfl)
    ·exact absurd hr (Nat.ne_of_beq_eq_false rfl)
    ·exact absurd hr (Nat.ne_of_beq_eq_false rfl)
   | 1,_ =>
    rcases st with _ | ⟨x110,_ | ⟨x111,_ | x112⟩⟩
    ·exact absurd hr (Nat.ne_of_beq_eq_false rfl)
    ·dsimp only at hC
     have hC:=hC.pick4
     refine dS 3 (.tmp 5) (.tmp 31) 0 (.int .i64 t66) [.int .i64 t66] [.int .i64 t66] hC ?_
     intro w2 h2
     refine ⟨some (x110,some ((),none)),rfl,?_,.inl rfl,h2⟩
     intro j hj
     match j,hj with
     | 0,_ => exact rfl
     | 1,_ => exact rfl
     | 2,_ => exact rfl
     | 3,_ => exact rfl
     | 4,_ => exact rfl
     | 5,_ => exact rfl
     | 6,_ => exact rfl
     | 7,_ => exact rfl
     | 8,_ => exact rfl
     | 9,hj => exact absurd hj (by decide)
     | 10,hj => exact absurd hj (by decide)
     | j + 11,_ => exact rfl
    ·exact absurd hr (Nat.ne_of_beq_eq_false rfl)
    ·exact absurd hr (Nat.ne_of_beq_eq_false rfl)
   | 2,_ =>
    rcases st with _ | ⟨x110,_ | ⟨x111,_ | x112⟩⟩
    ·exact absurd hr (Nat.ne_of_beq_eq_false rfl)
    ·exact absurd hr (Nat.ne_of_beq_eq_false rfl)
    ·dsimp only at hC
     have hC:=hC.pick4
     refine dS 25 (.tmp 6) (.const (.nilIface)) 0 .nilIface [.nilIface] [.nilIface] hC ?_
     intro w2 h2
     refine ⟨some (x110,some (x111,some ())),rfl,?_,.inl rfl,h2⟩
     intro j hj
     match j,hj with
     | 0,_ => exact rfl
     | 1,_ => exact rfl
     | 2,_ => exact rfl
     | 3,_ => exact rfl
     | 4,_ => exact rfl
     | 5,_ => exact rfl
     | 6,_ => exact rfl
     | 7,_ => exact rfl
     | 8,_ => exact rfl
     | 9,_ => exact rfl
     | 10,hj => exact absurd hj (by decide)
     | j + 11,_ => exact rfl
    ·exact absurd hr (Nat.ne_of_beq_eq_false rfl)
   | k + 3,hk => exact absurd hk (by simp)
  intro st116 w113 hS114 hr115
  rcases st116 with _ | ⟨x110,_ | ⟨x111,_ | x112⟩⟩
  ·exact absurd hr115 (nle rfl)
  ·exact absurd hr115 (nle rfl)
  ·exact absurd hr115 (nle rfl)
  replace hS114 : St w0 Z (xblk b9 25 ([.nilIface])::xblk b5 3 ([.int .i64 t66])::xblk b1 23 ([.slice Q70 t69.length Q71])::xrow Q70 Q71 68 6 (t69.flatMap enc_api_Node)::xblk b59 114 ([.slice Aa0 a0.length ca0,.int .i64 t66] ++ (enc_api_Token t67) ++ [.int .i64 t68,.slice Q70 t69.length Q71])::fs) w113:=hS114
  refine runsL_ret (fn:=Tryz.f27) Tryz.func27 ?_
  obtain ⟨_,hr117,hp118⟩:=bind_some' hp73
  have hS120:=hS114.pick3
  obtain ⟨Z121,hz122,hS123,hs124,hb125⟩:=hS120.lendrow len_api_Node (by omega)
  have hS126:=hS123.pick1
  have hS127:=hS126.pick2
  refine leaves_one (fun h => nomatch h) (by kernel_rfl) rfl (cond_Take_1_1.ok t69 t66 b1 Q70 Q71 b5 b9 hS127 hs124 hr117) ?_
  rintro _ w128 ⟨rfl,hS129⟩
  refine ⟨⟨_,rfl⟩,?_⟩
  have hS130:=hb125 _ _ hS129
  have hS132:=hS130.pick1
  have hS133:=hS132.drop
  have hS134:=hS133.pick1
  have hS135:=hS134.drop
  have hS136:=hS135.pick1
  have hS137:=hS136.drop
  have hS138:=hS137.pick1
  have hS139:=hS138.drop
  refine leaves_nil (v:=.tuple #[.slice Q70 t69.length Q71,.int .i64 t66,.nilIface]) (resl_run (fn:=Tryz.f27) (by kernel_rfl) (.cell (t:=4) (ty:=23) (by kernel_rfl) (loads_at 0 (hS130.blk 1 rfl) (by kernel_rfl) (by kernel_rfl)) (.cell (t:=5) (ty:=3) (by kernel_rfl) (loads_at 0 (hS130.blk 2 rfl) (by kernel_rfl) (by kernel_rfl)) (.cell (t:=6) (ty:=25) (by kernel_rfl) (loads_at 0 (hS130.blk 3 rfl) (by kernel_rfl) (by kernel_rfl)) .nil)))) ?_
  cases Option.some.inj hp118
  exact hR _ _ ⟨Q70,Q71,.nilIface,Z,(Zm.Le.refl _),rfl,hS139,(RepE.of_nil)⟩

noncomputable def cd8 (p : List Nat) : Code := sub (bodyOf Tryz.f8) p
abbrev p8_8:=cd8 [1,1,1,1,0]
abbrev p8_16:=cd8 [1,1,1,1,1,1,1,0,0]
abbrev p8_18:=cd8 [1,1,1,1,1,1,1,1]
abbrev p8_19:=cd8 [1,1,1,1,1,1,1,0,1,0]
abbrev p8_20:=cd8 [1,1,1,1,1,1,1,0,1,1]
abbrev p8_21:=cd8 [1,1,1,1,1,1,1,0,1,1,0,0]
def cond_Parse.f (a0 : ByteArray) : Option ((List api_Node) × PErr) :=
  (lexis_All.f a0 >>= (fun (t1,t2) => (if (!(PErr.isNil t2)) = true then some (([],t2)) else (lexis_Place.f a0 (a0.size : Int) >>= (fun (t24,t25,t26) => (if (t1.length + ([(⟨0,(⟨#[]⟩ : ByteArray),0,t24,t25,(a0.size : Int),(a0.size : Int)⟩ : api_Token)] : List api_Token).length) * 64 ≤ 140737488355328 then (cond_Take.f (t1 ++ ([(⟨0,(⟨#[]⟩ : ByteArray),0,t24,t25,(a0.size : Int),(a0.size : Int)⟩ : api_Token)] : List api_Token)) 0 >>= (fun (t43,t44,t45) => (if (!(PErr.isNil t45)) = true then some (([],t45)) else (if 0 ≤ t44 ∧ t44 < ((t1 ++ ([(⟨0,(⟨#[]⟩ : ByteArray),0,t24,t25,(a0.size : Int),(a0.size : Int)⟩ : api_Token)] : List api_Token)).length : Int) then (if (((gt (t1 ++ ([(⟨0,(⟨#[]⟩ : ByteArray),0,t24,t25,(a0.size : Int),(a0.size : Int)⟩ : api_Token)] : List api_Token)) t44).Kind) != 0) = true then some (([],(.pos ((gt (t1 ++ ([(⟨0,(⟨#[]⟩ : ByteArray),0,t24,t25,(a0.size : Int),(a0.size : Int)⟩ : api_Token)] : List api_Token)) t44).Line) ((gt (t1 ++ ([(⟨0,(⟨#[]⟩ : ByteArray),0,t24,t25,(a0.size : Int),(a0.size : Int)⟩ : api_Token)] : List api_Token)) t44).Col) 70))) else some ((t43,.nil))) else none)))) else none))))))
theorem cond_Parse.ok {a0 : ByteArray} {q0 : List api_Node} {q1 : PErr} (hp0 : cond_Parse.f a0 = some (q0,q1)) (hS0 : St w0 Z (fs) w) (hE : Env Z) :
    Calls Tryz.prog 8 #[.string a0] w (fun e w' => ∃ (QA0 : Option Addr) (Qc0 : Nat) (Qv2 : Value) (Z' : Zm),Zm.Le Z Z' ∧ e = .returned (.tuple #[.slice QA0 q0.length Qc0,Qv2]) ∧ St w0 Z' (xrow QA0 Qc0 68 6 (q0.flatMap enc_api_Node)::fs) w' ∧ RepE 37 78 Z' Qv2 q1):=by
  refine calls_abs ?_; intro R hR
  unfold cond_Parse.f at hp0
  refine calls_of_runs (fn:=Tryz.f8) (c:=cd8 []) Tryz.func8 (by kernel_rfl) (al:=[.string a0]) rfl (n:=62) rfl ?_
  refine sR 8 [iR (cd8 [1,0]) 1 6,.code (cd8 [1,1])] ?_
  obtain ⟨⟨t1,t2⟩,hr6,hp7⟩:=bind_some' hp0
  try dsimp only at hp7
  refine rC (lexis_All.ok hr6 hS0) ?_
  rintro _ w10 ⟨Q3,Q4,Q5,Z12,hz13,rfl,hS11,hs14⟩
  refine ⟨_,rfl,?_⟩
  refine sR 10 [.inRegion (opsOf (cd8 [1,1,0,0])) [1],.code (cd8 [1,1,0,1]),.code (cd8 [1,1,1])] ?_
  refine rV (.binOp .neq 25 (.tmp 17) (.const (.nilIface)) 25) (.bool (!(PErr.isNil t2))) (fun o ho _ => x_errNil (neg:=true) hs14 (by kernel_rfl) (by kernel_rfl) (fun _ _ => (by kernel_rfl)) ho) ?_
  refine r_split (!(PErr.isNil t2)) (fun h15 => ?_) (fun h16 => ?_)
  ·have hp17:=ite_t hp7 h15
   refine sR 8 [.code (cd8 [1,1,0,1,0,1]),.code (cd8 [1,1,1])] ?_
   have hS19:=hS11.nilrow none 68 6
   have hS20:=hS19.pick1
   have hS21:=hS20.drop
   refine rR (.tuple #[.slice none 0 0,Q5]) Tryz.func8 ?_
   cases Option.some.inj hp17
   exact hR _ _ ⟨none,0,Q5,Z12,hz13,rfl,hS21,hs14⟩
  have hp23:=ite_f hp7 h16
  refine sR 8 [iR (cd8 [1,1,1,0]) 3 8,.code (cd8 [1,1,1,1])] ?_
  obtain ⟨⟨t24,t25,t26⟩,hr27,hp28⟩:=bind_some' hp23
  try dsimp only at hp28
  refine rC (lexis_Place.ok hr27 hS11) ?_
  rintro _ w29 ⟨rfl,hS30⟩
  refine ⟨_,rfl,?_⟩
  refine sR 18 [.inRegion (opsOf p8_8) [8,9,10],.code (cd8 [1,1,1,1,1])] ?_
  refine r_lit (c:=p8_8) (i:=8) (d:=(some 36)) (ty:=53) (t:=53) (e:=75) (sz:=7) (n:=1) (parts:=#[(0,(.tmp 35))]) (vs:=[(0,.agg (enc_api_Token (⟨0,(⟨#[]⟩ : ByteArray),0,t24,t25,(a0.size : Int),(a0.size : Int)⟩ : api_Token)).toArray)]) (z:=zeroOf Tryz.prog 75) (cs':=([(⟨0,(⟨#[]⟩ : ByteArray),0,t24,t25,(a0.size : Int),(a0.size : Int)⟩ : api_Token)] : List api_Token).flatMap enc_api_Token) hS30 (by kernel_rfl) (by kernel_rfl) (by kernel_rfl) (by kernel_rfl) (by kernel_rfl) (by decide) (by decide) (by kernel_rfl) rfl (Parts.cons (c:=enc_api_Token (⟨0,(⟨#[]⟩ : ByteArray),0,t24,t25,(a0.size : Int),(a0.size : Int)⟩ : api_Token)) (by kernel_rfl) (len_api_Token _) Parts.nil) rfl ?_
  intro b32 w33 hS34
  have hS35:=hS34.pick1
  obtain ⟨g36,hp37⟩:=ite_some hp28
  refine r_append (c:=p8_8) (i:=9) (d:=(some 37)) (ty:=53) (enc:=enc_api_Token) (e:=75) (u:=75) (t:=53) (t2:=53) (sz:=7) (cp:=Q4) (A:=Q3) (bytes:=64) (xs:=t1) (ys:=([(⟨0,(⟨#[]⟩ : ByteArray),0,t24,t25,(a0.size : Int),(a0.size : Int)⟩ : api_Token)] : List api_Token)) (s:=(.tmp 28)) (x:=(.tmp 36)) (xv:=.slice (some ⟨b32,0,none⟩) ([(⟨0,(⟨#[]⟩ : ByteArray),0,t24,t25,(a0.size : Int),(a0.size : Int)⟩ : api_Token)] : List api_Token).length 1) (info:=infoOf Tryz.prog 75) (z:=zeroOf Tryz.prog 75) (ycs:=([(⟨0,(⟨#[]⟩ : ByteArray),0,t24,t25,(a0.size : Int),(a0.size : Int)⟩ : api_Token)] : List api_Token).flatMap enc_api_Token) hS35 (by kernel_rfl) (by kernel_rfl) (by kernel_rfl) (by kernel_rfl) (by kernel_rfl) (.inl (by kernel_rfl)) (by kernel_rfl) (by kernel_rfl) (by kernel_rfl) (by kernel_rfl) (by kernel_rfl) (by omega) len_api_Token one_api_Token (src_row (hS35.row 1 rfl) (by omega) len_api_Token) rfl g36 (by omega) ?_
  intro A38 c39 w40 hS41
  refine sR 5 [iR (cd8 [1,1,1,1,1,0]) 1 8,.code (cd8 [1,1,1,1,1,1])] ?_
  obtain ⟨⟨t43,t44,t45⟩,hr49,hp50⟩:=bind_some' hp37
  try dsimp only at hp50
  obtain ⟨Z53,hz54,hS55,hs56,-⟩:=hS41.lendrow len_api_Token (by omega)
  refine rC (cond_Take.ok hr49 hS55 hs56 (hE.up (Zm.Le.trans hz13 hz54))) ?_
  rintro _ w57 ⟨Q46,Q47,Q48,Z59,hz60,rfl,hS58,hs61⟩
  refine ⟨_,rfl,?_⟩
  refine sR 12 [.inRegion (opsOf (cd8 [1,1,1,1,1,1,0,0])) [1],.code (cd8 [1,1,1,1,1,1,0,1]),.code (cd8 [1,1,1,1,1,1,1])] ?_
  refine rV (.binOp .neq 25 (.tmp 44) (.const (.nilIface)) 25) (.bool (!(PErr.isNil t45))) (fun o ho _ => x_errNil (neg:=true) hs61 (by kernel_rfl) (by kernel_rfl) (fun _ _ => (by kernel_rfl)) ho) ?_
  refine r_split (!(PErr.isNil t45)) (fun h62 => ?_) (fun h63 => ?_)
  ·have hp64:=ite_t hp50 h62
   refine sR 8 [.code (cd8 [1,1,1,1,1,1,0,1,0,1]),.code (cd8 [1,1,1,1,1,1,1])] ?_
   have hS66:=hS58.nilrow none 68 6
   have hS67:=hS66.pick1
   have hS68:=hS67.drop
   have hS69:=hS68.pick1
   have hS70:=hS69.drop
   refine rR (.tuple #[.slice none 0 0,Q48]) Tryz.func8 ?_
   cases Option.some.inj hp64
   exact hR _ _ ⟨none,0,Q48,Z59,(Zm.Le.trans hz13 (Zm.Le.trans hz54 hz60)),rfl,hS70,hs61⟩
  have hp72:=ite_f hp50 h63
  refine sR 8 [iR p8_16 2 4,.code (cd8 [1,1,1,1,1,1,1,0,1]),.code p8_18] ?_
  obtain ⟨g73,hp74⟩:=ite_some hp72
  obtain ⟨b75,p76,hA77,hc78⟩:=hs56.atF g73.1 g73.2
  refine r_indexAddr (c:=p8_16) (i:=2) (d:=(some 49)) (ty:=0) (t:=53) (e:=75) (n:=(t1 ++ ([(⟨0,(⟨#[]⟩ : ByteArray),0,t24,t25,(a0.size : Int),(a0.size : Int)⟩ : api_Token)] : List api_Token)).length) (cp:=c39) (sz:=7) (kk:=.i64) (x:=(.tmp 47)) (y:=(.tmp 48)) (b:=b75) (o':=p76) (j:=t44) (by kernel_rfl) (by kernel_rfl) (slv (by kernel_rfl) hA77) (by kernel_rfl) (by kernel_rfl) (by kernel_rfl) g73.1 g73.2 ?_
  refine rLa 75 (.tmp 49) ((hc78.mono hz60).cells hS58) ?_
  refine rA 75 (.agg (enc_api_Token (⟨0,(⟨#[]⟩ : ByteArray),0,0,0,0,0⟩ : api_Token)).toArray) (enc_api_Token (⟨0,(⟨#[]⟩ : ByteArray),0,0,0,0,0⟩ : api_Token)) hS58 ?_
  intro b79 w80 hS81
  refine rSA 75 (.tmp 11) (.tmp 50) (enc_api_Token (gt (t1 ++ ([(⟨0,(⟨#[]⟩ : ByteArray),0,t24,t25,(a0.size : Int),(a0.size : Int)⟩ : api_Token)] : List api_Token)) t44)) hS81 (one_api_Token _) ?_
  intro w83 hS84
  refine sR 4 [.inRegion (opsOf p8_19) [1,2],.code p8_20,.code p8_18] ?_
  refine rL1 3 (.tmp 51) 0 (hS84.blk 0 rfl) ?_
  refine sI 1 [.inRegion (opsOf p8_19) [],.code p8_20,.code p8_18] 53 hp74 (fun hp87 => ?_) fun hp111 => ?_
  ·refine sR 3 [.code p8_21,.code (cd8 [1,1,1,1,1,1,1,0,1,1,0,1]),.code p8_18] ?_
   generalize hg89 : (xrow Q46 Q47 68 6 (t43.flatMap enc_api_Node)::xrow (some ⟨b32,0,none⟩) 1 75 7 (([(⟨0,(⟨#[]⟩ : ByteArray),0,t24,t25,(a0.size : Int),(a0.size : Int)⟩ : api_Token)] : List api_Token).flatMap enc_api_Token)::fs) = gs88 at hS84
   refine r_drawnP (S:=Option Nat) (dn:=(fun (st : Option Nat) k => [st.isSome].getD k true)) (C:=(fun st w' => match st with | none => St w0 Z59 (xblk b79 75 (enc_api_Token (gt (t1 ++ ([(⟨0,(⟨#[]⟩ : ByteArray),0,t24,t25,(a0.size : Int),(a0.size : Int)⟩ : api_Token)] : List api_Token)) t44))::gs88) w' | some b90 => St w0 Z59 (xblk b90 80 ([.int .i64 ((gt (t1 ++ ([(⟨0,(⟨#[]⟩ : ByteArray),0,t24,t25,(a0.size : Int),(a0.size : Int)⟩ : api_Token)] : List api_Token)) t44).Line),.int .i64 ((gt (t1 ++ ([(⟨0,(⟨#[]⟩ : ByteArray),0,t24,t25,(a0.size : Int),(a0.size : Int)⟩ : api_Token)] : List api_Token)) t44).Col),.iface 37 (.int .i64 70)])::xblk b79 75 (enc_api_Token (gt (t1 ++ ([(⟨0,(⟨#[]⟩ : ByteArray),0,t24,t25,(a0.size : Int),(a0.size : Int)⟩ : api_Token)] : List api_Token)) t44))::gs88) w')) (v:=(fun st => match st with | none => [.pointer (some ⟨b79,3,none⟩),.int .i64 ((gt (t1 ++ ([(⟨0,(⟨#[]⟩ : ByteArray),0,t24,t25,(a0.size : Int),(a0.size : Int)⟩ : api_Token)] : List api_Token)) t44).Line),.pointer (some ⟨b79,4,none⟩),.int .i64 ((gt (t1 ++ ([(⟨0,(⟨#[]⟩ : ByteArray),0,t24,t25,(a0.size : Int),(a0.size : Int)⟩ : api_Token)] : List api_Token)) t44).Col),.iface 37 (.int .i64 70),.agg #[.int .i64 ((gt (t1 ++ ([(⟨0,(⟨#[]⟩ : ByteArray),0,t24,t25,(a0.size : Int),(a0.size : Int)⟩ : api_Token)] : List api_Token)) t44).Line),.int .i64 ((gt (t1 ++ ([(⟨0,(⟨#[]⟩ : ByteArray),0,t24,t25,(a0.size : Int),(a0.size : Int)⟩ : api_Token)] : List api_Token)) t44).Col),.iface 37 (.int .i64 70)],undef,undef,.slice none 0 0,undef] | some b90 => [.pointer (some ⟨b79,3,none⟩),.int .i64 ((gt (t1 ++ ([(⟨0,(⟨#[]⟩ : ByteArray),0,t24,t25,(a0.size : Int),(a0.size : Int)⟩ : api_Token)] : List api_Token)) t44).Line),.pointer (some ⟨b79,4,none⟩),.int .i64 ((gt (t1 ++ ([(⟨0,(⟨#[]⟩ : ByteArray),0,t24,t25,(a0.size : Int),(a0.size : Int)⟩ : api_Token)] : List api_Token)) t44).Col),.iface 37 (.int .i64 70),.agg #[.int .i64 ((gt (t1 ++ ([(⟨0,(⟨#[]⟩ : ByteArray),0,t24,t25,(a0.size : Int),(a0.size : Int)⟩ : api_Token)] : List api_Token)) t44).Line),.int .i64 ((gt (t1 ++ ([(⟨0,(⟨#[]⟩ : ByteArray),0,t24,t25,(a0.size : Int),(a0.size : Int)⟩ : api_Token)] : List api_Token)) t44).Col),.iface 37 (.int .i64 70)],.pointer (some ⟨b90,0,none⟩),.iface 78 (.pointer (some ⟨b90,0,none⟩)),.slice none 0 0,.iface 78 (.pointer (some ⟨b90,0,none⟩))])) (c:=p8_21) (id:=11) none 0 10 [6] [[],[],[],[],[],[],[],[0],[],[0]] [[],[],[],[],[],[0],[],[],[],[]] [] [true,true,true,true,true,true,true,true,true,true] (by kernel_rfl) (by kernel_rfl) (by kernel_rfl) (by kernel_rfl) (by kernel_rfl) (by kernel_rfl) (by kernel_rfl) (by kernel_rfl) (by kernel_rfl) (fun k hk => match k,hk with | 0,_ => rfl | k + 1,hk => absurd hk (by simp)) hS84.drew ?_ (fun k hk => match k,hk with | 0,_ => rfl | k + 1,hk => absurd hk (by simp)) ?_ ?_ ?_
   ·intro i hi st w hC hd
    match i,hi with
    | 0,_ => (show _ = _; kernel_rfl)
    | 1,_ => (show _ = _; kernel_rfl)
    | 2,_ => (show _ = _; kernel_rfl)
    | 3,_ => (show _ = _; kernel_rfl)
    | 4,_ => (show _ = _; kernel_rfl)
    | 5,_ => (show _ = _; kernel_rfl)
    | 6,_ => (show _ = _; kernel_rfl)
    | 7,_ => (show _ = _; kernel_rfl)
    | 8,_ => (show _ = _; kernel_rfl)
    | 9,_ => (show _ = _; kernel_rfl)
    | i + 10,hi => exact absurd hi (by omega)
   ·intro i hi he st w hC hd hu
    match i,hi,he with
    | 0,_,_ =>
     rcases st with _ | b90
     ·dsimp only at hC
      exact dG (.pointer (some ⟨b79,3,none⟩)) hC
     ·dsimp only at hC
      exact dG (.pointer (some ⟨b79,3,none⟩)) hC
    | 1,_,_ =>
     rcases st with _ | b90
     ·dsimp only at hC
      exact ⟨fun _ => does_run (x_load (t:=3) (x:=(.tmp 54)) (p:=⟨b79,3,none⟩) (v:=.int .i64 ((gt (t1 ++ ([(⟨0,(⟨#[]⟩ : ByteArray),0,t24,t25,(a0.size : Int),(a0.size : Int)⟩ : api_Token)] : List api_Token)) t44).Line)) (by kernel_rfl) (loads_at 3 (hC.blk 0 rfl) (by kernel_rfl) (by kernel_rfl)) (by kernel_rfl)) rfl hC,fun h => absurd h (by decide)⟩
     ·dsimp only at hC
      exact ⟨fun _ => does_run (x_load (t:=3) (x:=(.tmp 54)) (p:=⟨b79,3,none⟩) (v:=.int .i64 ((gt (t1 ++ ([(⟨0,(⟨#[]⟩ : ByteArray),0,t24,t25,(a0.size : Int),(a0.size : Int)⟩ : api_Token)] : List api_Token)) t44).Line)) (by kernel_rfl) (loads_at 3 (hC.blk 1 rfl) (by kernel_rfl) (by kernel_rfl)) (by kernel_rfl)) rfl hC,fun h => absurd h (by decide)⟩
    | 2,_,_ =>
     rcases st with _ | b90
     ·dsimp only at hC
      exact dG (.pointer (some ⟨b79,4,none⟩)) hC
     ·dsimp only at hC
      exact dG (.pointer (some ⟨b79,4,none⟩)) hC
    | 3,_,_ =>
     rcases st with _ | b90
     ·dsimp only at hC
      exact ⟨fun _ => does_run (x_load (t:=3) (x:=(.tmp 56)) (p:=⟨b79,4,none⟩) (v:=.int .i64 ((gt (t1 ++ ([(⟨0,(⟨#[]⟩ : ByteArray),0,t24,t25,(a0.size : Int),(a0.size : Int)⟩ : api_Token)] : List api_Token)) t44).Col)) (by kernel_rfl) (loads_at 4 (hC.blk 0 rfl) (by kernel_rfl) (by kernel_rfl)) (by kernel_rfl)) rfl hC,fun h => absurd h (by decide)⟩
     ·dsimp only at hC
      exact ⟨fun _ => does_run (x_load (t:=3) (x:=(.tmp 56)) (p:=⟨b79,4,none⟩) (v:=.int .i64 ((gt (t1 ++ ([(⟨0,(⟨#[]⟩ : ByteArray),0,t24,t25,(a0.size : Int),(a0.size : Int)⟩ : api_Token)] : List api_Token)) t44).Col)) (by kernel_rfl) (loads_at 4 (hC.blk 1 rfl) (by kernel_rfl) (by kernel_rfl)) (by kernel_rfl)) rfl hC,fun h => absurd h (by decide)⟩
    | 4,_,_ =>
     rcases st with _ | b90
     ·dsimp only at hC
      exact dG (.iface 37 (.int .i64 70)) hC
     ·dsimp only at hC
      exact dG (.iface 37 (.int .i64 70)) hC
    | 5,_,_ =>
     rcases st with _ | b90
     ·dsimp only at hC
      exact dG (.agg #[.int .i64 ((gt (t1 ++ ([(⟨0,(⟨#[]⟩ : ByteArray),0,t24,t25,(a0.size : Int),(a0.size : Int)⟩ : api_Token)] : List api_Token)) t44).Line),.int .i64 ((gt (t1 ++ ([(⟨0,(⟨#[]⟩ : ByteArray),0,t24,t25,(a0.size : Int),(a0.size : Int)⟩ : api_Token)] : List api_Token)) t44).Col),.iface 37 (.int .i64 70)]) hC
     ·exact Bool.noConfusion (hu 0 (by decide))
    | 6,_,he => exact absurd he (by decide)
    | 7,_,_ =>
     rcases st with _ | b90
     ·exact Bool.noConfusion (hd 0 (by decide))
     ·dsimp only at hC
      exact dG (.iface 78 (.pointer (some ⟨b90,0,none⟩))) hC
    | 8,_,_ =>
     rcases st with _ | b90
     ·dsimp only at hC
      exact dG (.slice none 0 0) hC
     ·dsimp only at hC
      exact dG (.slice none 0 0) hC
    | 9,_,_ =>
     rcases st with _ | b90
     ·exact Bool.noConfusion (hd 0 (by decide))
     ·dsimp only at hC
      exact dG (.iface 78 (.pointer (some ⟨b90,0,none⟩))) hC
    | i + 10,hi,_ => exact absurd hi (by omega)
   ·intro k hk st w hC hr hm
    match k,hk with
    | 0,_ =>
     rcases st with _ | b90
     ·dsimp only at hC
      refine does_box (t:=80) (x:=(.tmp 59)) (v:=.agg #[.int .i64 ((gt (t1 ++ ([(⟨0,(⟨#[]⟩ : ByteArray),0,t24,t25,(a0.size : Int),(a0.size : Int)⟩ : api_Token)] : List api_Token)) t44).Line),.int .i64 ((gt (t1 ++ ([(⟨0,(⟨#[]⟩ : ByteArray),0,t24,t25,(a0.size : Int),(a0.size : Int)⟩ : api_Token)] : List api_Token)) t44).Col),.iface 37 (.int .i64 70)]) (cs:=[.int .i64 ((gt (t1 ++ ([(⟨0,(⟨#[]⟩ : ByteArray),0,t24,t25,(a0.size : Int),(a0.size : Int)⟩ : api_Token)] : List api_Token)) t44).Line),.int .i64 ((gt (t1 ++ ([(⟨0,(⟨#[]⟩ : ByteArray),0,t24,t25,(a0.size : Int),(a0.size : Int)⟩ : api_Token)] : List api_Token)) t44).Col),.iface 37 (.int .i64 70)]) hC (by kernel_rfl) (by kernel_rfl) (by kernel_rfl) ?_
      intro b90 w2 h2
      have h2:=h2.pick1
      have h2:=h2.pick1
      refine ⟨some b90,rfl,?_,?_,.inr rfl,h2⟩
      ·intro m hne; match m,hne with
       | 0,hne => exact absurd rfl hne
       | m + 1,_ => exact rfl
      ·intro j hj; match j,hj with
       | 0,hj => exact rfl
       | 1,hj => exact rfl
       | 2,hj => exact rfl
       | 3,hj => exact rfl
       | 4,hj => exact rfl
       | 5,hj => exact rfl
       | 6,hj => exact absurd (by decide) hj
       | 7,hj => exact absurd (by decide) hj
       | 8,hj => exact rfl
       | 9,hj => exact absurd (by decide) hj
       | j + 10,_ => exact rfl
     ·exact Bool.noConfusion hr
    | k + 1,hk => exact absurd hk (by simp)
   intro st95 w92 hS93 hr94
   rcases st95 with _ | b90
   ·exact Bool.noConfusion (hr94 0 (Nat.lt_of_sub_eq_succ rfl))
   replace hS93 : St w0 Z59 (xblk b90 80 ([.int .i64 ((gt (t1 ++ ([(⟨0,(⟨#[]⟩ : ByteArray),0,t24,t25,(a0.size : Int),(a0.size : Int)⟩ : api_Token)] : List api_Token)) t44).Line),.int .i64 ((gt (t1 ++ ([(⟨0,(⟨#[]⟩ : ByteArray),0,t24,t25,(a0.size : Int),(a0.size : Int)⟩ : api_Token)] : List api_Token)) t44).Col),.iface 37 (.int .i64 70)])::xblk b79 75 (enc_api_Token (gt (t1 ++ ([(⟨0,(⟨#[]⟩ : ByteArray),0,t24,t25,(a0.size : Int),(a0.size : Int)⟩ : api_Token)] : List api_Token)) t44))::gs88) w92:=hS93
   subst hg89
   have hS97:=hS93.nilrow none 68 6
   have hS99:=hS97.pick1
   obtain ⟨Z100,hz101,hS102,hs103,-⟩:=hS99.lendblk
   have hS104:=hS102.pick1
   have hS105:=hS104.drop
   have hS106:=hS105.pick1
   have hS107:=hS106.drop
   have hS108:=hS107.pick1
   have hS109:=hS108.drop
   refine rR (.tuple #[.slice none 0 0,.iface 78 (.pointer (some ⟨b90,0,none⟩))]) Tryz.func8 ?_
   cases Option.some.inj hp87
   exact hR _ _ ⟨none,0,(.iface 78 (.pointer (some ⟨b90,0,none⟩))),Z100,(Zm.Le.trans hz13 (Zm.Le.trans hz54 (Zm.Le.trans hz60 hz101))),rfl,hS109,(RepE.of_pos hs103)⟩
  refine sR 9 [.code (cd8 [1,1,1,1,1,1,1,1,1])] ?_
  have hS113:=hS84.drop
  have hS114:=hS113.pick1
  have hS115:=hS114.drop
  refine rR (.tuple #[.slice Q46 t43.length Q47,.nilIface]) Tryz.func8 ?_
  cases Option.some.inj hp111
  exact hR _ _ ⟨Q46,Q47,.nilIface,Z59,(Zm.Le.trans hz13 (Zm.Le.trans hz54 hz60)),rfl,hS115,(RepE.of_nil)⟩

noncomputable def cd59 (p : List Nat) : Code := sub (bodyOf Tryz.f59) p
abbrev p59_7:=cd59 [1,0,1,0,1,0,0]
abbrev p59_11:=cd59 [1,0,1,0,1,1,1,0,0]
abbrev p59_15:=cd59 [1,0,1,0,1,1,1,1,1,0,0]
abbrev p59_19:=cd59 [1,0,1,0,1,1,1,1,1,1,1,0,0]
abbrev p59_20:=cd59 [1,0,1,0,1,1,1,1,1,1,1,0,1]
abbrev td181:List Item:=[.code (cd59 [1,1])]
abbrev td182:List Item:=.inBlock 0::td181
abbrev td183:List Item:=.code (cd59 [1,0,1,0,1,0,1])::td182
abbrev td184:List Item:=.code (cd59 [1,0,1,0,1,1,1,0,1])::td182
abbrev td185:List Item:=.code (cd59 [1,0,1,0,1,1,1,1,1,0,1])::td182
abbrev td186:List Item:=.code (cd59 [1,0,1,0,1,1,1,1,1,1,1])::td182
abbrev td187:List Item:=.code p59_20::td182
def cond_fields.f (a0 : api_Node) : Option Bool :=
  (if (a0.Op == 2) = true then (if (a0.A == 0) = true then (if (a0.B == 0) = true then (if (decide (a0.Ref.Thread ≥ (-1))) = true then (if (decide (a0.Ref.Thread ≤ 9999)) = true then (lexis_Name.f a0.Ref.Name >>= (fun t20 => some (t20))) else some (false)) else some (false)) else some (false)) else some (false)) else (if (a0.Op == 1) = true then (if (decide (a0 = (⟨1,0,0,(⟨0,(⟨#[]⟩ : ByteArray)⟩ : api_Ref),0⟩ : api_Node))) = true then some (true) else some (false)) else (if (a0.Op == 3) = true then (if (a0.B == 0) = true then (if (decide (a0.Ref = (⟨0,(⟨#[]⟩ : ByteArray)⟩ : api_Ref))) = true then (if (a0.Value == 0) = true then some (true) else some (false)) else some (false)) else some (false)) else (((if (a0.Op == 4) = true then some (true) else (if (a0.Op == 5) = true then some (true) else some (false))) : Option Bool) >>= (fun t79 => (if t79 = true then (if (decide (a0.Ref = (⟨0,(⟨#[]⟩ : ByteArray)⟩ : api_Ref))) = true then (if (a0.Value == 0) = true then some (true) else some (false)) else some (false)) else some (false)))))))
theorem cond_fields.ok {a0 : api_Node} {q0 : Bool} (hp0 : cond_fields.f a0 = some q0) (hS0 : St w0 Z (fs) w) :
    Calls Tryz.prog 59 #[.agg (enc_api_Node a0).toArray] w (fun e w' => e = .returned (.bool q0) ∧ St w0 Z (fs) w'):=by
  refine calls_abs ?_; intro R hR
  unfold cond_fields.f at hp0
  refine calls_of_runs (fn:=Tryz.f59) (c:=cd59 []) Tryz.func59 (by kernel_rfl) (al:=[.agg (enc_api_Node a0).toArray]) rfl (n:=65) rfl ?_
  refine sR 2 [.inRegion (opsOf (cd59 [0])) [0,1],.code (cd59 [1])] ?_
  refine r_box (c:=(cd59 [0])) (i:=0) (d:=(some 1)) (ty:=0) (x:=(.tmp 0)) (v:=.agg (enc_api_Node a0).toArray) (t:=68) (cs:=enc_api_Node a0) hS0 (by kernel_rfl) (by kernel_rfl) (by kernel_rfl) (by kernel_rfl) ?_
  intro b1 w2 hS3
  refine sR 6 (.inRegion (opsOf (cd59 [1,0,0])) [1]::.code (cd59 [1,0,1])::td181) ?_
  refine rL1 3 (.tmp 3) 0 (hS3.blk 0 rfl) ?_
  refine sI 5 (.inRegion (opsOf (cd59 [1,0,1,0,0])) [1]::.code (cd59 [1,0,1,0,1])::td182) 6 hp0 (fun hp7 => ?_) fun hp39 => ?_
  ·refine sR 6 (iR p59_7 1 26::td183) ?_
   refine rL1 3 (.tmp 7) 1 (hS3.blk 0 rfl) ?_
   refine sI 1 (iR p59_7 3 24::td183) 9 hp7 (fun hp10 => ?_) fun hp36 => ?_
   ·refine sR 2 (iR p59_7 5 22::td183) ?_
    refine rL1 3 (.tmp 11) 2 (hS3.blk 0 rfl) ?_
    refine sI 1 (iR p59_7 7 20::td183) 13 hp10 (fun hp13 => ?_) fun hp33 => ?_
    ·refine sR 4 (iR p59_7 11 16::td183) ?_
     refine rL1 3 (.tmp 17) 0 (sub_api_Node_Ref (hS3.blk 0 rfl)) ?_
     refine sI 1 (iR p59_7 13 14::td183) 19 hp13 (fun hp16 => ?_) fun hp30 => ?_
     ·refine sR 4 (iR p59_7 17 10::td183) ?_
      refine rL1 3 (.tmp 23) 0 (sub_api_Node_Ref (hS3.blk 0 rfl)) ?_
      refine sI 1 (iR p59_7 19 8::td183) 25 hp16 (fun hp19 => ?_) fun hp27 => ?_
      ·refine sR 4 (iR p59_7 23 4::td183) ?_
       refine rL1 9 (.tmp 29) 1 (sub_api_Node_Ref (hS3.blk 0 rfl)) ?_
       obtain ⟨t20,hr21,hp22⟩:=bind_some' hp19
       refine rC (lexis_Name.ok hr21 hS3) ?_
       rintro _ w23 ⟨rfl,hS24⟩
       refine ⟨_,rfl,?_⟩
       refine sR 3 td183 ?_
       have hS25:=hS24.drop
       refine rR (.bool t20) Tryz.func59 ?_
       cases Option.some.inj hp22
       exact hR _ _ ⟨rfl,hS25⟩
      refine sR 9 td183 ?_
      have hS28:=hS3.drop
      refine rR (.bool false) Tryz.func59 ?_
      cases Option.some.inj hp27
      exact hR _ _ ⟨rfl,hS28⟩
     refine sR 15 td183 ?_
     have hS31:=hS3.drop
     refine rR (.bool false) Tryz.func59 ?_
     cases Option.some.inj hp30
     exact hR _ _ ⟨rfl,hS31⟩
    refine sR 21 td183 ?_
    have hS34:=hS3.drop
    refine rR (.bool false) Tryz.func59 ?_
    cases Option.some.inj hp33
    exact hR _ _ ⟨rfl,hS34⟩
   refine sR 25 td183 ?_
   have hS37:=hS3.drop
   refine rR (.bool false) Tryz.func59 ?_
   cases Option.some.inj hp36
   exact hR _ _ ⟨rfl,hS37⟩
  refine sI 6 (.inRegion (opsOf (cd59 [1,0,1,0,1,1,0])) [1]::.code (cd59 [1,0,1,0,1,1,1])::td182) 34 hp39 (fun hp42 => ?_) fun hp51 => ?_
  ·refine sR 5 (iR p59_11 0 4::td184) ?_
   refine rLa 68 (.tmp 1) (hS3.blk 0 rfl) ?_
   refine sR 1 (.inRegion (opsOf p59_11) [2,3]::td184) ?_
   refine rV (.binOp .eql 68 (.tmp 35) (.tmp 36) 68) (.bool (decide (a0 = (⟨1,0,0,(⟨0,(⟨#[]⟩ : ByteArray)⟩ : api_Ref),0⟩ : api_Node)))) (fun o ho _ => x_eql_api_Node (by kernel_rfl) (by kernel_rfl) ho) ?_
   refine r_split (decide (a0 = (⟨1,0,0,(⟨0,(⟨#[]⟩ : ByteArray)⟩ : api_Ref),0⟩ : api_Node))) (fun h43 => ?_) (fun h44 => ?_)
   ·have hp45:=ite_t hp42 h43
    refine sR 2 td184 ?_
    have hS46:=hS3.drop
    refine rR (.bool true) Tryz.func59 ?_
    cases Option.some.inj hp45
    exact hR _ _ ⟨rfl,hS46⟩
   have hp48:=ite_f hp42 h44
   refine sR 2 td184 ?_
   have hS49:=hS3.drop
   refine rR (.bool false) Tryz.func59 ?_
   cases Option.some.inj hp48
   exact hR _ _ ⟨rfl,hS49⟩
  refine sI 6 (.inRegion (opsOf (cd59 [1,0,1,0,1,1,1,1,0])) [1]::.code (cd59 [1,0,1,0,1,1,1,1,1])::td182) 39 hp51 (fun hp54 => ?_) fun hp75 => ?_
  ·refine sR 6 (iR p59_15 1 14::td185) ?_
   refine rL1 3 (.tmp 40) 2 (hS3.blk 0 rfl) ?_
   refine sI 1 (iR p59_15 3 12::td185) 42 hp54 (fun hp57 => ?_) fun hp72 => ?_
   ·refine sR 2 (iR p59_15 5 10::td185) ?_
    refine rLa 66 (.tmp 44) (sub_api_Node_Ref (hS3.blk 0 rfl)) ?_
    refine sR 1 (iR p59_15 7 8::td185) ?_
    refine rV (.binOp .eql 66 (.tmp 45) (.tmp 46) 66) (.bool (decide (a0.Ref = (⟨0,(⟨#[]⟩ : ByteArray)⟩ : api_Ref)))) (fun o ho _ => x_eql_api_Ref (by kernel_rfl) (by kernel_rfl) ho) ?_
    refine r_split (decide (a0.Ref = (⟨0,(⟨#[]⟩ : ByteArray)⟩ : api_Ref))) (fun h58 => ?_) (fun h59 => ?_)
    ·have hp60:=ite_t hp57 h58
     refine sR 3 (iR p59_15 11 4::td185) ?_
     refine rL1 2 (.tmp 50) 5 (hS3.blk 0 rfl) ?_
     refine sI 1 (.inRegion (opsOf p59_15) [13,14]::td185) 52 hp60 (fun hp63 => ?_) fun hp66 => ?_
     ·refine sR 3 td185 ?_
      have hS64:=hS3.drop
      refine rR (.bool true) Tryz.func59 ?_
      cases Option.some.inj hp63
      exact hR _ _ ⟨rfl,hS64⟩
     refine sR 3 td185 ?_
     have hS67:=hS3.drop
     refine rR (.bool false) Tryz.func59 ?_
     cases Option.some.inj hp66
     exact hR _ _ ⟨rfl,hS67⟩
    have hp69:=ite_f hp57 h59
    refine sR 8 td185 ?_
    have hS70:=hS3.drop
    refine rR (.bool false) Tryz.func59 ?_
    cases Option.some.inj hp69
    exact hR _ _ ⟨rfl,hS70⟩
   refine sR 13 td185 ?_
   have hS73:=hS3.drop
   refine rR (.bool false) Tryz.func59 ?_
   cases Option.some.inj hp72
   exact hR _ _ ⟨rfl,hS73⟩
  obtain ⟨v76,hv77,hp78⟩:=bind_some' hp75
  have J82 : ∀ (t79 : Bool) (he84 : t79 = v76) (l83 : List Value) (w80 : World) (hS81 : St w0 Z (xblk b1 68 (enc_api_Node a0)::fs) w80),Runs Tryz.prog (fx 59) td186 (fill (mk 66 [(1,.pointer (some ⟨b1,0,none⟩)),(54,.bool t79)]) l83) w80 R:=by
   intro t79 he84 l83 w80 hS81
   subst he84
   try dsimp only at hp78
   cases t79
   ·have hp85:=ite_f hp78 rfl
    refine sR 7 [.code (cd59 [1,1,1])] ?_
    have hS86:=hS81.drop
    refine rR (.bool false) Tryz.func59 ?_
    cases Option.some.inj hp85
    exact hR _ _ ⟨rfl,hS86⟩
   have hp88:=ite_t hp78 rfl
   refine sR 4 (iR p59_19 1 9::td187) ?_
   refine rLa 66 (.tmp 57) (sub_api_Node_Ref (hS81.blk 0 rfl)) ?_
   refine sR 1 (iR p59_19 3 7::td187) ?_
   refine rV (.binOp .eql 66 (.tmp 58) (.tmp 59) 66) (.bool (decide (a0.Ref = (⟨0,(⟨#[]⟩ : ByteArray)⟩ : api_Ref)))) (fun o ho _ => x_eql_api_Ref (by kernel_rfl) (by kernel_rfl) ho) ?_
   refine r_split (decide (a0.Ref = (⟨0,(⟨#[]⟩ : ByteArray)⟩ : api_Ref))) (fun h89 => ?_) (fun h90 => ?_)
   ·have hp91:=ite_t hp88 h89
    refine sR 2 (iR p59_19 6 4::td187) ?_
    refine rL1 2 (.tmp 62) 5 (hS81.blk 0 rfl) ?_
    refine sI 1 (.inRegion (opsOf p59_19) [8,9]::td187) 64 hp91 (fun hp94 => ?_) fun hp97 => ?_
    ·refine sR 3 td187 ?_
     refine r_isret (c:=p59_20) (by kernel_rfl) ?_
     have hS95:=hS81.drop
     refine rR (.bool true) Tryz.func59 ?_
     cases Option.some.inj hp94
     exact hR _ _ ⟨rfl,hS95⟩
    refine sR 3 td187 ?_
    refine r_isret (c:=p59_20) (by kernel_rfl) ?_
    have hS98:=hS81.drop
    refine rR (.bool false) Tryz.func59 ?_
    cases Option.some.inj hp97
    exact hR _ _ ⟨rfl,hS98⟩
   have hp100:=ite_f hp88 h90
   refine sR 7 td187 ?_
   refine r_isret (c:=p59_20) (by kernel_rfl) ?_
   have hS101:=hS81.drop
   refine rR (.bool false) Tryz.func59 ?_
   cases Option.some.inj hp100
   exact hR _ _ ⟨rfl,hS101⟩
  refine sI 7 (.inRegion (opsOf (cd59 [1,0,1,0,1,1,1,1,1,1,0,0])) [1]::.code (cd59 [1,0,1,0,1,1,1,1,1,1,0,1])::td186) 55 hv77 (fun hp105 => ?_) fun hp106 => ?_
  ·refine sR 4 td186 ?_
   exact rF _ (J82 true (Option.some.inj hp105) _ _ hS3)
  refine sI 5 (.inRegion (opsOf (cd59 [1,0,1,0,1,1,1,1,1,1,0,1,1])) [1]::td186) 56 hp106 (fun hp109 => ?_) fun hp110 => ?_
  ·refine sR 2 td186 ?_
   exact rF _ (J82 true (Option.some.inj hp109) _ _ hS3)
  refine sR 2 td186 ?_
  exact rF _ (J82 false (Option.some.inj hp110) _ _ hS3)

noncomputable def cd35 (p : List Nat) : Code := sub (bodyOf Tryz.f35) p
abbrev p35_2:=cd35 [1,1]
abbrev p35_8:=cd35 [1,1,1,1,0]
abbrev p35_9:=cd35 [1,1,1,1,1]
abbrev p35_12:=cd35 [1,1,1,0,1,0,0,1,1,0,0,0]
abbrev p35_13:=cd35 [1,1,1,0,1,0,0,1,1,0,0,1]
abbrev p35_15:=cd35 [1,1,1,0,1,0,0,1,1,0,0,1,0,0]
abbrev p35_16:=cd35 [1,1,1,0,1,0,0,1,1,0,0,1,0,1]
abbrev p35_18:=cd35 [1,1,1,0,1,0,0,1,1,0,0,1,0,1,0,1]
abbrev p35_23:=cd35 [1,1,1,0,1,0,0,1,1,0,0,1,1,1,0,1,0,0,0]
abbrev p35_25:=cd35 [1,1,1,0,1,0,0,1,1,0,0,1,1,1,0,1,0,1]
abbrev p35_26:=cd35 [1,1,1,0,1,0,0,1,1,0,0,1,1,1,0,1,0,0,1,0,1]
abbrev p35_28:=cd35 [1,1,1,0,1,0,0,1,1,0,0,1,1,1,0,1,1,1,1]
abbrev p35_29:=cd35 [1,1,1,0,1,0,0,1,1,0,0,1,1,1,0,1,1,1,0,0,0]
abbrev p35_31:=cd35 [1,1,1,0,1,0,0,1,1,0,0,1,1,1,0,1,1,1,0,1]
abbrev p35_32:=cd35 [1,1,1,0,1,0,0,1,1,0,0,1,1,1,0,1,1,1,0,0,1,0,1]
abbrev td188:List Item:=[.code (cd35 [1,1,1,1])]
abbrev td189:List Item:=.inBlock 0::td188
abbrev td190:List Item:=.inLoop (cd35 [1,1,1,0,1,0,0])::td189
abbrev td191:List Item:=.code (cd35 [1,1,1,0,1,0,0])::td190
abbrev td192:List Item:=.code (cd35 [1,1,1,0,1,0,0,1,1,1])::td190
abbrev td193:List Item:=.inBlock 1::td192
abbrev td194:List Item:=.code (cd35 [1,1,1,0,1,0,0,1,1,0,0,1,1])::td193
abbrev td195:List Item:=.inBlock 2::td193
abbrev td196:List Item:=.code p35_25::td195
abbrev td197:List Item:=.code (cd35 [1,1,1,0,1,0,0,1,1,0,0,1,1,1,0,1,0,0,1])::td196
abbrev td198:List Item:=.code (cd35 [1,1,1,0,1,0,0,1,1,0,0,1,1,1,0,1,1,1])::td195
abbrev td199:List Item:=.code p35_31::td195
abbrev td200:List Item:=.code p35_32::td199
def cond_makes.l0 (a0 : List api_Node) (t41 : Int) (t42 : List Int) : Option (Sum (List Int) Bool) :=
  (if (decide (t41 < (a0.length : Int))) = true then (if 0 ≤ t41 ∧ t41 < (a0.length : Int) then (cond_fields.f (gt a0 t41) >>= (fun t68 => (if (!t68) = true then some (.inr (false)) else (if (((gt a0 t41).Op) == 3) = true then (if (t41 == 0) = true then some (.inr (false)) else (if (((gt a0 t41).A) != (IntKind.i64.wrap (t41 - 1))) = true then some (.inr (false)) else (if 0 ≤ ((gt a0 t41).A) ∧ ((gt a0 t41).A) < (t42.length : Int) then (if 0 ≤ t41 ∧ t41 < (t42.length : Int) then (cond_makes.l0 a0 (IntKind.i64.wrap (t41 + 1)) (setl t42 t41 (gt t42 ((gt a0 t41).A)))) else none) else none))) else (((if (((gt a0 t41).Op) == 4) = true then some (true) else (if (((gt a0 t41).Op) == 5) = true then some (true) else some (false))) : Option Bool) >>= (fun t118 => (if t118 = true then (if (t41 == 0) = true then some (.inr (false)) else (if (((gt a0 t41).B) != (IntKind.i64.wrap (t41 - 1))) = true then some (.inr (false)) else (if 0 ≤ ((gt a0 t41).B) ∧ ((gt a0 t41).B) < (t42.length : Int) then (if ((gt t42 ((gt a0 t41).B)) == 0) = true then some (.inr (false)) else (if 0 ≤ ((gt a0 t41).B) ∧ ((gt a0 t41).B) < (t42.length : Int) then (if (((gt a0 t41).A) != (IntKind.i64.wrap ((gt t42 ((gt a0 t41).B)) - 1))) = true then some (.inr (false)) else (if 0 ≤ ((gt a0 t41).A) ∧ ((gt a0 t41).A) < (t42.length : Int) then (if 0 ≤ t41 ∧ t41 < (t42.length : Int) then (cond_makes.l0 a0 (IntKind.i64.wrap (t41 + 1)) (setl t42 t41 (gt t42 ((gt a0 t41).A)))) else none) else none)) else none)) else none))) else (if 0 ≤ t41 ∧ t41 < (t42.length : Int) then (cond_makes.l0 a0 (IntKind.i64.wrap (t41 + 1)) (setl t42 t41 t41)) else none)))))))) else none) else some (.inl t42))
 partial_fixpoint
def cond_makes.f (a0 : List api_Node) : Option Bool :=
  (if (decide ((a0.length : Int) < 1)) = true then some (false) else (if (decide ((a0.length : Int) > 1024)) = true then some (false) else (if 0 ≤ (a0.length : Int) ∧ (a0.length : Int) * 8 ≤ 140737488355328 then (cond_makes.l0 a0 0 (List.replicate (a0.length : Int).toNat (0 : Int)) >>= (fun | .inl t20 => (if 0 ≤ (IntKind.i64.wrap ((a0.length : Int) - 1)) ∧ (IntKind.i64.wrap ((a0.length : Int) - 1)) < (t20.length : Int) then (if ((gt t20 (IntKind.i64.wrap ((a0.length : Int) - 1))) == 0) = true then some (true) else some (false)) else none) | .inr e => some e)) else none)))
theorem cond_makes.ok {a0 : List api_Node} {Aa0 : Option Addr} {ca0 : Nat} {q0 : Bool} (hp0 : cond_makes.f a0 = some q0) (hS0 : St w0 Z (fs) w) (ha0 : SlZ (flat enc_api_Node) 6 Z Aa0 ca0 a0) :
    Calls Tryz.prog 35 #[.slice Aa0 a0.length ca0] w (fun e w' => e = .returned (.bool q0) ∧ St w0 Z (fs) w'):=by
  refine calls_abs ?_; intro R hR
  unfold cond_makes.f at hp0
  refine calls_of_runs (fn:=Tryz.f35) (c:=cd35 []) Tryz.func35 (by kernel_rfl) (al:=[.slice Aa0 a0.length ca0]) rfl (n:=98) rfl ?_
  refine sI 10 [iR (cd35 [1,0,0]) 3 5,.code (cd35 [1,0,1]),.code p35_2] 8 hp0 (fun hp3 => ?_) fun hp5 => ?_
  ·refine sR 11 [.code (cd35 [1,0,1,0,1]),.code p35_2] ?_
   refine rR (.bool false) Tryz.func35 ?_
   cases Option.some.inj hp3
   exact hR _ _ ⟨rfl,hS0⟩
  refine sI 4 [.inRegion (opsOf (cd35 [1,0,0])) [7],.code (cd35 [1,0,1]),.code p35_2] 12 hp5 (fun hp8 => ?_) fun hp10 => ?_
  ·refine sR 7 [.code (cd35 [1,0,1,0,1]),.code p35_2] ?_
   refine rR (.bool false) Tryz.func35 ?_
   cases Option.some.inj hp8
   exact hR _ _ ⟨rfl,hS0⟩
  refine sR 8 [.inRegion (opsOf (cd35 [1,1,0])) [2,3],.code (cd35 [1,1,1])] ?_
  obtain ⟨g11,hp12⟩:=ite_some hp10
  refine r_make (c:=(cd35 [1,1,0])) (i:=2) (d:=(some 16)) (ty:=141) (enc:=(encI .i64)) (t:=141) (e:=3) (sz:=1) (bytes:=8) (info:=infoOf Tryz.prog 3) (x:=(.tmp 15)) (y:=(.tmp 15)) (n:=(a0.length : Int)) (kk:=.i64) (kc:=.i64) (z:=.int .i64 0) (x0:=0) hS0 (by kernel_rfl) (by kernel_rfl) (by kernel_rfl) (by kernel_rfl) (by kernel_rfl) (by kernel_rfl) (by kernel_rfl) (by kernel_rfl) (by kernel_rfl) (by kernel_rfl) (len_encI .i64) (by omega) g11 (by omega) ?_
  intro A13 w14 hS15
  refine rF [none,none,none,none,none,none,none,none,none,none,none,none,none,none,none,none,some (.slice A13 (a0.length : Int).toNat (a0.length : Int).toNat),none,none,none,none,none,none,none,none,none,none,none,none,none,none,none,none,none,none,none,none,none,none,none,none,none,none,none,none,none,none,none,none,none,none,none,none,none,none,none,none,none,none,none,none,none,none,none,none,none,none,none,none,none,none,none,none,none,none,none,none,none,none,none,none,none,none,none,none,none,none,none,none,none,none,none,none,none,none,none,none,none,none] ?_
  refine Runs.refill (m':=[none,none,none,none,none,none,none,none,none,none,none,none,none,none,none,none,some (.slice A13 (List.replicate (a0.length : Int).toNat (0 : Int)).length ((a0.length : Int).toNat)),none,none,none,none,none,none,none,none,none,none,none,none,none,none,none,none,none,none,none,none,none,none,none,none,none,none,none,none,none,none,none,none,none,none,none,none,none,none,none,none,none,none,none,none,none,none,none,none,none,none,none,none,none,none,none,none,none,none,none,none,none,none,none,none,none,none,none,none,none,none,none,none,none,none,none,none,none,none,none,none,none,none]) (by simp only [List.length_replicate]) ?_
  refine sR 11 td191 ?_
  obtain ⟨v17,hv18,hp19⟩:=bind_some' hp12
  have hq23 : ∀ x,Sum.inr x = v17 → x = q0:=by intro x hx; subst hx; simpa using hp19
  have J24 : ∀ (t20 : List Int) (he26 : Sum.inl t20 = v17) (l25 : List Value) (w21 : World) (hS22 : St w0 Z (xrow A13 ((a0.length : Int).toNat) 3 1 (t20.flatMap (encI .i64))::fs) w21),Runs Tryz.prog (fx 35) td188 (fill (mk 99 [(0,.slice Aa0 a0.length ca0),(3,.slice A13 t20.length ((a0.length : Int).toNat))]) l25) w21 R:=by
   intro t20 he26 l25 w21 hS22
   subst he26
   try dsimp only at hp19
   refine sR 6 [iR p35_8 4 4,.code p35_9] ?_
   obtain ⟨g27,hp28⟩:=ite_some hp19
   obtain ⟨b29,p30,hA31,-⟩:=(hS22.row 0 rfl).at_ (len_encI .i64) (by omega) g27.1 g27.2
   refine r_indexAddr (c:=p35_8) (i:=4) (d:=(some 96)) (ty:=0) (t:=141) (e:=3) (n:=t20.length) (cp:=(a0.length : Int).toNat) (sz:=1) (kk:=.i64) (x:=(.tmp 92)) (y:=(.tmp 95)) (b:=b29) (o':=p30) (j:=(IntKind.i64.wrap ((a0.length : Int) - 1))) (by kernel_rfl) (by kernel_rfl) (slv (by kernel_rfl) hA31) (by kernel_rfl) (by kernel_rfl) (by kernel_rfl) g27.1 g27.2 ?_
   refine rL1 3 (.tmp 96) 0 ((hS22.row 0 rfl).at2 hA31 (len_encI .i64) (by omega) g27.1 g27.2) ?_
   refine sI 1 [.inRegion (opsOf p35_8) [7],.code p35_9] 98 hp28 (fun hp35 => ?_) fun hp38 => ?_
   ·refine sR 2 [.code p35_9] ?_
    have hS36:=hS22.drop
    refine rR (.bool true) Tryz.func35 ?_
    cases Option.some.inj hp35
    exact hR _ _ ⟨rfl,hS36⟩
   refine sR 2 [.code p35_9] ?_
   have hS39:=hS22.drop
   refine rR (.bool false) Tryz.func35 ?_
   cases Option.some.inj hp38
   exact hR _ _ ⟨rfl,hS39⟩
  have L51 : ∀ (t41 : Int) (t42 : List Int) (e46 : Sum (List Int) Bool),cond_makes.l0 a0 t41 t42 = some e46 → e46 = v17 → ∀ (l45 : List Value) (w43 : World) (hS44 : St w0 Z (xrow A13 ((a0.length : Int).toNat) 3 1 (t42.flatMap (encI .i64))::fs) w43),Runs Tryz.prog (fx 35) td191 (fill (mk 99 [(0,.slice Aa0 a0.length ca0),(3,.slice A13 t42.length ((a0.length : Int).toNat)),(17,.slice Aa0 a0.length ca0),(18,.int .i64 (a0.length : Int)),(19,.int .i64 t41)]) l45) w43 R:=by
   refine cond_makes.l0.partial_correctness a0 (fun t41 t42 e46 => e46 = v17 → ∀ (l45 : List Value) (w43 : World) (hS44 : St w0 Z (xrow A13 ((a0.length : Int).toNat) 3 1 (t42.flatMap (encI .i64))::fs) w43),Runs Tryz.prog (fx 35) td191 (fill (mk 99 [(0,.slice Aa0 a0.length ca0),(3,.slice A13 t42.length ((a0.length : Int).toNat)),(17,.slice Aa0 a0.length ca0),(18,.int .i64 (a0.length : Int)),(19,.int .i64 t41)]) l45) w43 R) ?_
   intro rec50 ih49 t41 t42 e46 hb48 he47 l45 w43 hS44
   have hq52 : ∀ x,Sum.inr x = e46 → x = q0:=fun x hx => hq23 x (hx.trans he47)
   refine sI 3 (.inRegion (opsOf (cd35 [1,1,1,0,1,0,0,0])) []::.code (cd35 [1,1,1,0,1,0,0,1])::td190) 20 hb48 (fun hp55 => ?_) fun hp213 => ?_
   ·refine sR 9 (iR p35_12 1 5::.code p35_13::td193) ?_
    obtain ⟨g56,hp57⟩:=ite_some hp55
    obtain ⟨b58,p59,hA60,hc61⟩:=ha0.atF g56.1 g56.2
    refine r_indexAddr (c:=p35_12) (i:=1) (d:=(some 22)) (ty:=0) (t:=23) (e:=68) (n:=a0.length) (cp:=ca0) (sz:=6) (kk:=.i64) (x:=(.tmp 17)) (y:=(.tmp 19)) (b:=b58) (o':=p59) (j:=t41) (by kernel_rfl) (by kernel_rfl) (slv (by kernel_rfl) hA60) (by kernel_rfl) (by kernel_rfl) (by kernel_rfl) g56.1 g56.2 ?_
    refine rLa 68 (.tmp 22) (hc61.cells hS44) ?_
    refine rA 68 (.agg (enc_api_Node (⟨0,0,0,⟨0,(⟨#[]⟩ : ByteArray)⟩,0⟩ : api_Node)).toArray) (enc_api_Node (⟨0,0,0,⟨0,(⟨#[]⟩ : ByteArray)⟩,0⟩ : api_Node)) hS44 ?_
    intro b62 w63 hS64
    refine sR 1 (.inRegion (opsOf p35_12) [5]::.code p35_13::td193) ?_
    refine rSA 68 (.tmp 5) (.tmp 23) (enc_api_Node (gt a0 t41)) hS64 (one_api_Node _) ?_
    intro w66 hS67
    refine sR 4 (.inRegion (opsOf p35_15) [0,1,2]::.code p35_16::td194) ?_
    refine rLa 68 (.tmp 5) (hS67.blk 0 rfl) ?_
    obtain ⟨t68,hr69,hp70⟩:=bind_some' hp57
    refine rC (cond_fields.ok hr69 hS67) ?_
    rintro _ w71 ⟨rfl,hS72⟩
    refine ⟨_,rfl,?_⟩
    refine sI 1 (.inRegion (opsOf p35_15) []::.code p35_16::td194) 26 hp70 (fun hp75 => ?_) fun hp79 => ?_
    ·refine sR 6 (.code p35_18::td194) ?_
     refine r_isret (c:=p35_18) (by kernel_rfl) ?_
     have hS76:=hS72.drop
     have hS77:=hS76.drop
     refine rR (.bool false) Tryz.func35 ?_
     cases hq52 _ (Option.some.inj hp75)
     exact hR _ _ ⟨rfl,hS77⟩
    refine sR 6 (.inRegion (opsOf (cd35 [1,1,1,0,1,0,0,1,1,0,0,1,1,0])) [1]::.code (cd35 [1,1,1,0,1,0,0,1,1,0,0,1,1,1])::td193) ?_
    refine rL1 3 (.tmp 27) 0 (hS72.blk 0 rfl) ?_
    refine sI 5 (.inRegion (opsOf (cd35 [1,1,1,0,1,0,0,1,1,0,0,1,1,1,0,0])) [1]::.code (cd35 [1,1,1,0,1,0,0,1,1,0,0,1,1,1,0,1])::td195) 34 hp79 (fun hp82 => ?_) fun hp114 => ?_
    ·refine sI 8 (iR p35_23 2 7::td197) 36 hp82 (fun hp85 => ?_) fun hp89 => ?_
     ·refine sR 13 (.code p35_26::td196) ?_
      refine r_isret (c:=p35_26) (by kernel_rfl) ?_
      have hS86:=hS72.drop
      have hS87:=hS86.drop
      refine rR (.bool false) Tryz.func35 ?_
      cases hq52 _ (Option.some.inj hp85)
      exact hR _ _ ⟨rfl,hS87⟩
     refine sR 2 (iR p35_23 4 5::td197) ?_
     refine rL1 3 (.tmp 38) 1 (hS72.blk 0 rfl) ?_
     refine sI 3 (.inRegion (opsOf p35_23) [8]::td197) 42 hp89 (fun hp92 => ?_) fun hp96 => ?_
     ·refine sR 7 (.code p35_26::td196) ?_
      refine r_isret (c:=p35_26) (by kernel_rfl) ?_
      have hS93:=hS72.drop
      have hS94:=hS93.drop
      refine rR (.bool false) Tryz.func35 ?_
      cases hq52 _ (Option.some.inj hp92)
      exact hR _ _ ⟨rfl,hS94⟩
     refine sR 9 (iR p35_25 4 5::td195) ?_
     refine rL1 3 (.tmp 47) 1 (hS72.blk 0 rfl) ?_
     obtain ⟨g97,hp98⟩:=ite_some hp96
     obtain ⟨b99,p100,hA101,-⟩:=(hS72.row 1 rfl).at_ (len_encI .i64) (by omega) g97.1 g97.2
     refine r_indexAddr (c:=p35_25) (i:=5) (d:=(some 49)) (ty:=0) (t:=141) (e:=3) (n:=t42.length) (cp:=(a0.length : Int).toNat) (sz:=1) (kk:=.i64) (x:=(.tmp 46)) (y:=(.tmp 48)) (b:=b99) (o':=p100) (j:=(gt a0 t41).A) (by kernel_rfl) (by kernel_rfl) (slv (by kernel_rfl) hA101) (by kernel_rfl) (by kernel_rfl) (by kernel_rfl) g97.1 g97.2 ?_
     refine rL1 3 (.tmp 49) 0 ((hS72.row 1 rfl).at2 hA101 (len_encI .i64) (by omega) g97.1 g97.2) ?_
     obtain ⟨g103,hp104⟩:=ite_some hp98
     obtain ⟨b105,p106,hA107,-⟩:=(hS72.row 1 rfl).at_ (len_encI .i64) (by omega) g103.1 g103.2
     refine r_indexAddr (c:=p35_25) (i:=7) (d:=(some 51)) (ty:=0) (t:=141) (e:=3) (n:=t42.length) (cp:=(a0.length : Int).toNat) (sz:=1) (kk:=.i64) (x:=(.tmp 44)) (y:=(.tmp 45)) (b:=b105) (o':=p106) (j:=t41) (by kernel_rfl) (by kernel_rfl) (slv (by kernel_rfl) hA107) (by kernel_rfl) (by kernel_rfl) (by kernel_rfl) g103.1 g103.2 ?_
     have hS109:=hS72.pick1
     refine r_storeEl (c:=p35_25) (i:=8) (d:=none) (ty:=0) (enc:=(encI .i64)) (e:=3) (t:=3) (sz:=1) (cp:=(a0.length : Int).toNat) (A:=A13) (xs:=t42) (x:=(.tmp 51)) (y:=(.tmp 50)) (el:=gt t42 t41) (el':=(gt t42 ((gt a0 t41).A))) (j:=t41) (off:=0) (b:=b105) (p:=p106) (v:=.int .i64 (gt t42 ((gt a0 t41).A))) (vs:=[.int .i64 (gt t42 ((gt a0 t41).A))]) (ad:=⟨b105,p106 + t41.toNat * 1,none⟩) hS109 (by kernel_rfl) (by kernel_rfl) (by kernel_rfl) (by simp) (by kernel_rfl) hA107 g103 rfl (len_encI .i64) (by kernel_rfl) (by kernel_rfl) (by kernel_rfl) (Nat.le_of_ble_eq_true (by kernel_rfl)) (Nat.le_of_ble_eq_true (by kernel_rfl)) (by kernel_rfl) ?_
     intro w110 hS111
     refine rF [none,none,none,some (.slice A13 t42.length ((a0.length : Int).toNat)),none,none,none,none,none,none,none,none,none,none,none,none,none,none,none,none,none,none,none,none,none,none,none,none,none,none,none,none,none,none,none,none,none,none,none,none,none,none,none,none,some (.slice A13 t42.length ((a0.length : Int).toNat)),none,some (.slice A13 t42.length ((a0.length : Int).toNat)),none,none,none,none,none,none,none,none,none,none,none,none,none,none,none,none,none,none,none,none,none,none,none,none,none,none,none,none,none,none,none,none,none,none,none,none,none,none,none,none,none,none,none,none,none,none,none,none,none,none,none,none] ?_
     refine Runs.refill (m':=[none,none,none,some (.slice A13 (setl t42 t41 (gt t42 ((gt a0 t41).A))).length ((a0.length : Int).toNat)),none,none,none,none,none,none,none,none,none,none,none,none,none,none,none,none,none,none,none,none,none,none,none,none,none,none,none,none,none,none,none,none,none,none,none,none,none,none,none,none,some (.slice A13 (setl t42 t41 (gt t42 ((gt a0 t41).A))).length ((a0.length : Int).toNat)),none,some (.slice A13 (setl t42 t41 (gt t42 ((gt a0 t41).A))).length ((a0.length : Int).toNat)),none,none,none,none,none,none,none,none,none,none,none,none,none,none,none,none,none,none,none,none,none,none,none,none,none,none,none,none,none,none,none,none,none,none,none,none,none,none,none,none,none,none,none,none,none,none,none,none,none,none,none,none]) (by simp only [setl_len]) ?_
     refine sR 7 td190 ?_
     have hS112:=hS111.pick1
     have hS113:=hS112.drop
     refine sR 1 td191 ?_
     exact rF _ (ih49 (IntKind.i64.wrap (t41 + 1)) (setl t42 t41 (gt t42 ((gt a0 t41).A))) _ hp104 he47 _ _ hS113)
    obtain ⟨v115,hv116,hp117⟩:=bind_some' hp114
    have J121 : ∀ (t118 : Bool) (he123 : t118 = v115) (l122 : List Value) (w119 : World) (hS120 : St w0 Z (xrow A13 ((a0.length : Int).toNat) 3 1 (t42.flatMap (encI .i64))::xblk b62 68 (enc_api_Node (gt a0 t41))::fs) w119),Runs Tryz.prog (fx 35) td198 (fill (mk 99 [(0,.slice Aa0 a0.length ca0),(3,.slice A13 t42.length ((a0.length : Int).toNat)),(4,.int .i64 t41),(5,.pointer (some ⟨b62,0,none⟩)),(17,.slice Aa0 a0.length ca0),(18,.int .i64 (a0.length : Int)),(19,.int .i64 t41),(52,.bool t118)]) l122) w119 R:=by
     intro t118 he123 l122 w119 hS120
     subst he123
     try dsimp only at hp117
     cases t118
     ·have hp124:=ite_f hp117 rfl
      refine sR 5 (.inRegion (opsOf p35_28) [3,4]::td195) ?_
      obtain ⟨g125,hp126⟩:=ite_some hp124
      obtain ⟨b127,p128,hA129,-⟩:=(hS120.row 0 rfl).at_ (len_encI .i64) (by omega) g125.1 g125.2
      refine r_indexAddr (c:=p35_28) (i:=3) (d:=(some 32)) (ty:=0) (t:=141) (e:=3) (n:=t42.length) (cp:=(a0.length : Int).toNat) (sz:=1) (kk:=.i64) (x:=(.tmp 29)) (y:=(.tmp 30)) (b:=b127) (o':=p128) (j:=t41) (by kernel_rfl) (by kernel_rfl) (slv (by kernel_rfl) hA129) (by kernel_rfl) (by kernel_rfl) (by kernel_rfl) g125.1 g125.2 ?_
      refine r_storeEl (c:=p35_28) (i:=4) (d:=none) (ty:=0) (enc:=(encI .i64)) (e:=3) (t:=3) (sz:=1) (cp:=(a0.length : Int).toNat) (A:=A13) (xs:=t42) (x:=(.tmp 32)) (y:=(.tmp 31)) (el:=gt t42 t41) (el':=t41) (j:=t41) (off:=0) (b:=b127) (p:=p128) (v:=.int .i64 t41) (vs:=[.int .i64 t41]) (ad:=⟨b127,p128 + t41.toNat * 1,none⟩) hS120 (by kernel_rfl) (by kernel_rfl) (by kernel_rfl) (by simp) (by kernel_rfl) hA129 g125 rfl (len_encI .i64) (by kernel_rfl) (by kernel_rfl) (by kernel_rfl) (Nat.le_of_ble_eq_true (by kernel_rfl)) (Nat.le_of_ble_eq_true (by kernel_rfl)) (by kernel_rfl) ?_
      intro w131 hS132
      refine rF [none,none,none,some (.slice A13 t42.length ((a0.length : Int).toNat)),none,none,none,none,none,none,none,none,none,none,none,none,none,none,none,none,none,none,none,none,none,none,none,none,none,some (.slice A13 t42.length ((a0.length : Int).toNat)),none,none,none,none,none,none,none,none,none,none,none,none,none,none,none,none,none,none,none,none,none,none,none,none,none,none,none,none,none,none,none,none,none,none,none,none,none,none,none,none,none,none,none,none,none,none,none,none,none,none,none,none,none,none,none,none,none,none,none,none,none,none,none,none,none,none,none,none,none] ?_
      refine Runs.refill (m':=[none,none,none,some (.slice A13 (setl t42 t41 t41).length ((a0.length : Int).toNat)),none,none,none,none,none,none,none,none,none,none,none,none,none,none,none,none,none,none,none,none,none,none,none,none,none,some (.slice A13 (setl t42 t41 t41).length ((a0.length : Int).toNat)),none,none,none,none,none,none,none,none,none,none,none,none,none,none,none,none,none,none,none,none,none,none,none,none,none,none,none,none,none,none,none,none,none,none,none,none,none,none,none,none,none,none,none,none,none,none,none,none,none,none,none,none,none,none,none,none,none,none,none,none,none,none,none,none,none,none,none,none,none]) (by simp only [setl_len]) ?_
      refine sR 7 td190 ?_
      have hS133:=hS132.pick1
      have hS134:=hS133.drop
      refine sR 1 td191 ?_
      exact rF _ (ih49 (IntKind.i64.wrap (t41 + 1)) (setl t42 t41 t41) _ hp126 he47 _ _ hS134)
     have hp135:=ite_t hp117 rfl
     refine sR 3 (.code p35_29::.code (cd35 [1,1,1,0,1,0,0,1,1,0,0,1,1,1,0,1,1,1,0,0,1])::td199) ?_
     refine r_quiet hS120 (c:=p35_29) (id:=17) (by kernel_rfl) (by kernel_rfl) (by kernel_rfl) (is:=[0,1,2,3,4,5,6,7,8,9,10,11,12,13,14,15,16,17,18,19,20,21,22,23,24,25,26,27]) (by kernel_rfl) ?_
     refine qI 2 (rg 2 26) 56 hp135 (fun hp138 => ?_) fun hp144 => ?_
     ·refine qR 26 [] ?_
      refine Qs.nil ?_
      intro w139 hS140
      refine sR 5 td200 ?_
      refine r_isret (c:=p35_32) (by kernel_rfl) ?_
      have hS141:=hS140.drop
      have hS142:=hS141.drop
      refine rR (.bool false) Tryz.func35 ?_
      cases hq52 _ (Option.some.inj hp138)
      exact hR _ _ ⟨rfl,hS142⟩
     refine qR 2 (rg 4 24) ?_
     refine qL1 3 (.tmp 58) 2 (fun w hC => (hC.blk 1 rfl)) ?_
     refine qI 3 (rg 8 20) 62 hp144 (fun hp147 => ?_) fun hp153 => ?_
     ·refine qR 20 [] ?_
      refine Qs.nil ?_
      intro w148 hS149
      refine sR 5 td200 ?_
      refine r_isret (c:=p35_32) (by kernel_rfl) ?_
      have hS150:=hS149.drop
      have hS151:=hS150.drop
      refine rR (.bool false) Tryz.func35 ?_
      cases hq52 _ (Option.some.inj hp147)
      exact hR _ _ ⟨rfl,hS151⟩
     refine qR 4 (rg 12 16) ?_
     refine qL1 3 (.tmp 66) 2 (fun w hC => (hC.blk 1 rfl)) ?_
     obtain ⟨g154,hp155⟩:=ite_some hp153
     obtain ⟨b156,p157,hA158,-⟩:=(hS120.row 0 rfl).at_ (len_encI .i64) (by omega) g154.1 g154.2
     refine q_indexAddr (c:=p35_29) (i:=13) (d:=(some 68)) (ty:=0) (t:=141) (e:=3) (n:=t42.length) (cp:=(a0.length : Int).toNat) (sz:=1) (kk:=.i64) (x:=(.tmp 65)) (y:=(.tmp 67)) (b:=b156) (o':=p157) (j:=(gt a0 t41).B) (by kernel_rfl) (by kernel_rfl) (slv (by kernel_rfl) hA158) (by kernel_rfl) (by kernel_rfl) (by kernel_rfl) g154.1 g154.2 ?_
     refine qL1 3 (.tmp 68) 0 (fun w hC => ((hC.row 0 rfl).at2 hA158 (len_encI .i64) (by omega) g154.1 g154.2)) ?_
     refine qI 1 (rg 16 12) 70 hp155 (fun hp162 => ?_) fun hp168 => ?_
     ·refine qR 12 [] ?_
      refine Qs.nil ?_
      intro w163 hS164
      refine sR 5 td200 ?_
      refine r_isret (c:=p35_32) (by kernel_rfl) ?_
      have hS165:=hS164.drop
      have hS166:=hS165.drop
      refine rR (.bool false) Tryz.func35 ?_
      cases hq52 _ (Option.some.inj hp162)
      exact hR _ _ ⟨rfl,hS166⟩
     refine qR 3 (rg 19 9) ?_
     refine qL1 3 (.tmp 73) 1 (fun w hC => (hC.blk 1 rfl)) ?_
     refine qR 2 (rg 22 6) ?_
     refine qL1 3 (.tmp 76) 2 (fun w hC => (hC.blk 1 rfl)) ?_
     obtain ⟨g169,hp170⟩:=ite_some hp168
     obtain ⟨b171,p172,hA173,-⟩:=(hS120.row 0 rfl).at_ (len_encI .i64) (by omega) g169.1 g169.2
     refine q_indexAddr (c:=p35_29) (i:=23) (d:=(some 78)) (ty:=0) (t:=141) (e:=3) (n:=t42.length) (cp:=(a0.length : Int).toNat) (sz:=1) (kk:=.i64) (x:=(.tmp 75)) (y:=(.tmp 77)) (b:=b171) (o':=p172) (j:=(gt a0 t41).B) (by kernel_rfl) (by kernel_rfl) (slv (by kernel_rfl) hA173) (by kernel_rfl) (by kernel_rfl) (by kernel_rfl) g169.1 g169.2 ?_
     refine qL1 3 (.tmp 78) 0 (fun w hC => ((hC.row 0 rfl).at2 hA173 (len_encI .i64) (by omega) g169.1 g169.2)) ?_
     refine qI 2 [27] 81 hp170 (fun hp177 => ?_) fun hp183 => ?_
     ·refine qR 1 [] ?_
      refine Qs.nil ?_
      intro w178 hS179
      refine sR 5 td200 ?_
      refine r_isret (c:=p35_32) (by kernel_rfl) ?_
      have hS180:=hS179.drop
      have hS181:=hS180.drop
      refine rR (.bool false) Tryz.func35 ?_
      cases hq52 _ (Option.some.inj hp177)
      exact hR _ _ ⟨rfl,hS181⟩
     refine qR 1 [] ?_
     refine Qs.nil ?_
     intro w184 hS185
     refine sR 7 (iR p35_31 4 5::td195) ?_
     refine rL1 3 (.tmp 86) 1 (hS185.blk 1 rfl) ?_
     obtain ⟨g186,hp187⟩:=ite_some hp183
     obtain ⟨b188,p189,hA190,-⟩:=(hS185.row 0 rfl).at_ (len_encI .i64) (by omega) g186.1 g186.2
     refine r_indexAddr (c:=p35_31) (i:=5) (d:=(some 88)) (ty:=0) (t:=141) (e:=3) (n:=t42.length) (cp:=(a0.length : Int).toNat) (sz:=1) (kk:=.i64) (x:=(.tmp 85)) (y:=(.tmp 87)) (b:=b188) (o':=p189) (j:=(gt a0 t41).A) (by kernel_rfl) (by kernel_rfl) (slv (by kernel_rfl) hA190) (by kernel_rfl) (by kernel_rfl) (by kernel_rfl) g186.1 g186.2 ?_
     refine rL1 3 (.tmp 88) 0 ((hS185.row 0 rfl).at2 hA190 (len_encI .i64) (by omega) g186.1 g186.2) ?_
     obtain ⟨g192,hp193⟩:=ite_some hp187
     obtain ⟨b194,p195,hA196,-⟩:=(hS185.row 0 rfl).at_ (len_encI .i64) (by omega) g192.1 g192.2
     refine r_indexAddr (c:=p35_31) (i:=7) (d:=(some 90)) (ty:=0) (t:=141) (e:=3) (n:=t42.length) (cp:=(a0.length : Int).toNat) (sz:=1) (kk:=.i64) (x:=(.tmp 83)) (y:=(.tmp 84)) (b:=b194) (o':=p195) (j:=t41) (by kernel_rfl) (by kernel_rfl) (slv (by kernel_rfl) hA196) (by kernel_rfl) (by kernel_rfl) (by kernel_rfl) g192.1 g192.2 ?_
     refine r_storeEl (c:=p35_31) (i:=8) (d:=none) (ty:=0) (enc:=(encI .i64)) (e:=3) (t:=3) (sz:=1) (cp:=(a0.length : Int).toNat) (A:=A13) (xs:=t42) (x:=(.tmp 90)) (y:=(.tmp 89)) (el:=gt t42 t41) (el':=(gt t42 ((gt a0 t41).A))) (j:=t41) (off:=0) (b:=b194) (p:=p195) (v:=.int .i64 (gt t42 ((gt a0 t41).A))) (vs:=[.int .i64 (gt t42 ((gt a0 t41).A))]) (ad:=⟨b194,p195 + t41.toNat * 1,none⟩) hS185 (by kernel_rfl) (by kernel_rfl) (by kernel_rfl) (by simp) (by kernel_rfl) hA196 g192 rfl (len_encI .i64) (by kernel_rfl) (by kernel_rfl) (by kernel_rfl) (Nat.le_of_ble_eq_true (by kernel_rfl)) (Nat.le_of_ble_eq_true (by kernel_rfl)) (by kernel_rfl) ?_
     intro w198 hS199
     refine rF [none,none,none,some (.slice A13 t42.length ((a0.length : Int).toNat)),none,none,none,none,none,none,none,none,none,none,none,none,none,none,none,none,none,none,none,none,none,none,none,none,none,none,none,none,none,none,none,none,none,none,none,none,none,none,none,none,none,none,none,none,none,none,none,none,none,none,none,none,none,none,none,none,none,none,none,none,none,some (.slice A13 t42.length ((a0.length : Int).toNat)),none,none,none,none,none,none,none,none,none,some (.slice A13 t42.length ((a0.length : Int).toNat)),none,none,none,none,none,none,none,some (.slice A13 t42.length ((a0.length : Int).toNat)),none,some (.slice A13 t42.length ((a0.length : Int).toNat)),none,none,none,none,none,none,none,none,none,none,none,none,none] ?_
     refine Runs.refill (m':=[none,none,none,some (.slice A13 (setl t42 t41 (gt t42 ((gt a0 t41).A))).length ((a0.length : Int).toNat)),none,none,none,none,none,none,none,none,none,none,none,none,none,none,none,none,none,none,none,none,none,none,none,none,none,none,none,none,none,none,none,none,none,none,none,none,none,none,none,none,none,none,none,none,none,none,none,none,none,none,none,none,none,none,none,none,none,none,none,none,none,some (.slice A13 (setl t42 t41 (gt t42 ((gt a0 t41).A))).length ((a0.length : Int).toNat)),none,none,none,none,none,none,none,none,none,some (.slice A13 (setl t42 t41 (gt t42 ((gt a0 t41).A))).length ((a0.length : Int).toNat)),none,none,none,none,none,none,none,some (.slice A13 (setl t42 t41 (gt t42 ((gt a0 t41).A))).length ((a0.length : Int).toNat)),none,some (.slice A13 (setl t42 t41 (gt t42 ((gt a0 t41).A))).length ((a0.length : Int).toNat)),none,none,none,none,none,none,none,none,none,none,none,none,none]) (by simp only [setl_len]) ?_
     refine sR 7 td190 ?_
     have hS200:=hS199.pick1
     have hS201:=hS200.drop
     refine sR 1 td191 ?_
     exact rF _ (ih49 (IntKind.i64.wrap (t41 + 1)) (setl t42 t41 (gt t42 ((gt a0 t41).A))) _ hp193 he47 _ _ hS201)
    refine sI 7 (.inRegion (opsOf (cd35 [1,1,1,0,1,0,0,1,1,0,0,1,1,1,0,1,1,0,0])) [1]::.code (cd35 [1,1,1,0,1,0,0,1,1,0,0,1,1,1,0,1,1,0,1])::td198) 53 hv116 (fun hp204 => ?_) fun hp206 => ?_
    ·refine sR 4 td198 ?_
     have hS205:=hS72.pick1
     exact rF _ (J121 true (Option.some.inj hp204) _ _ hS205)
    refine sI 5 (.inRegion (opsOf (cd35 [1,1,1,0,1,0,0,1,1,0,0,1,1,1,0,1,1,0,1,1])) [1]::td198) 54 hp206 (fun hp209 => ?_) fun hp211 => ?_
    ·refine sR 2 td198 ?_
     have hS210:=hS72.pick1
     exact rF _ (J121 true (Option.some.inj hp209) _ _ hS210)
    refine sR 2 td198 ?_
    have hS212:=hS72.pick1
    exact rF _ (J121 false (Option.some.inj hp211) _ _ hS212)
   refine sR 4 td188 ?_
   exact rF _ (J24 t42 ((Option.some.inj hp213).trans he47) _ _ hS44)
  exact rF _ (L51 0 (List.replicate (a0.length : Int).toNat (0 : Int)) _ hv18 rfl _ _ hS15)

noncomputable def cd61 (p : List Nat) : Code := sub (bodyOf Tryz.f61) p
abbrev p61_7:=cd61 [1,0,1,0,1,1,1,0,0]
abbrev td201:List Item:=[.code (cd61 [1,1])]
abbrev td202:List Item:=.inBlock 0::td201
abbrev td203:List Item:=.code (cd61 [1,0,1,0,1,0,1])::td202
abbrev td204:List Item:=.code (cd61 [1,0,1,0,1,1,1,0,1])::td202
def cond_bracketed.f (a0 a1 : Int) (a2 : Bool) : Option Bool :=
  (if (a0 == 3) = true then (if (a1 == 4) = true then some (true) else (if (a1 == 5) = true then some (true) else some (false))) else (if (a0 == 4) = true then (if (a1 == 5) = true then some (true) else (if (a1 == 4) = true then some (a2) else some (false))) else (if (a1 == 5) = true then some (a2) else some (false))))
theorem cond_bracketed.ok {a0 a1 : Int} {a2 q0 : Bool} (hp0 : cond_bracketed.f a0 a1 a2 = some q0) (hS0 : St w0 Z (fs) w) :
    Calls Tryz.prog 61 #[.int .i64 a0,.int .i64 a1,.bool a2] w (fun e w' => e = .returned (.bool q0) ∧ St w0 Z (fs) w'):=by
  refine calls_abs ?_; intro R hR
  unfold cond_bracketed.f at hp0
  refine calls_of_runs (fn:=Tryz.f61) (c:=cd61 []) Tryz.func61 (by kernel_rfl) (al:=[.int .i64 a0,.int .i64 a1,.bool a2]) rfl (n:=29) rfl ?_
  refine sI 13 (.inRegion (opsOf (cd61 [1,0,1,0,0])) [1]::.code (cd61 [1,0,1,0,1])::td202) 9 hp0 (fun hp3 => ?_) fun hp15 => ?_
  ·refine sI 7 (iR (cd61 [1,0,1,0,1,0,0]) 2 5::td203) 11 hp3 (fun hp6 => ?_) fun hp8 => ?_
   ·refine sR 6 td203 ?_
    refine rR (.bool true) Tryz.func61 ?_
    cases Option.some.inj hp6
    exact hR _ _ ⟨rfl,hS0⟩
   refine sI 3 (.inRegion (opsOf (cd61 [1,0,1,0,1,0,0])) [5,6]::td203) 14 hp8 (fun hp11 => ?_) fun hp13 => ?_
   ·refine sR 3 td203 ?_
    refine rR (.bool true) Tryz.func61 ?_
    cases Option.some.inj hp11
    exact hR _ _ ⟨rfl,hS0⟩
   refine sR 3 td203 ?_
   refine rR (.bool false) Tryz.func61 ?_
   cases Option.some.inj hp13
   exact hR _ _ ⟨rfl,hS0⟩
  refine sI 6 (.inRegion (opsOf (cd61 [1,0,1,0,1,1,0])) [1]::.code (cd61 [1,0,1,0,1,1,1])::td202) 17 hp15 (fun hp18 => ?_) fun hp30 => ?_
  ·refine sI 7 (iR p61_7 2 8::td204) 19 hp18 (fun hp21 => ?_) fun hp23 => ?_
   ·refine sR 9 td204 ?_
    refine rR (.bool true) Tryz.func61 ?_
    cases Option.some.inj hp21
    exact hR _ _ ⟨rfl,hS0⟩
   refine sI 3 (iR p61_7 5 5::td204) 22 hp23 (fun hp26 => ?_) fun hp28 => ?_
   ·refine sR 6 td204 ?_
    refine rR (.bool a2) Tryz.func61 ?_
    cases Option.some.inj hp26
    exact hR _ _ ⟨rfl,hS0⟩
   refine sR 6 td204 ?_
   refine rR (.bool false) Tryz.func61 ?_
   cases Option.some.inj hp28
   exact hR _ _ ⟨rfl,hS0⟩
  refine sI 9 [iR (cd61 [1,1,0]) 2 4,.code (cd61 [1,1,1])] 28 hp30 (fun hp33 => ?_) fun hp35 => ?_
  ·refine sR 5 [.code (cd61 [1,1,1])] ?_
   refine rR (.bool a2) Tryz.func61 ?_
   cases Option.some.inj hp33
   exact hR _ _ ⟨rfl,hS0⟩
  refine sR 5 [.code (cd61 [1,1,1])] ?_
  refine rR (.bool false) Tryz.func61 ?_
  cases Option.some.inj hp35
  exact hR _ _ ⟨rfl,hS0⟩

def cond_deep.Spec (rec : (List api_Node) → Int → Option Int) : Prop:=∀ (a0 : List api_Node) (a1 : Int) (Aa0 : Option Addr) (ca0 : Nat) {w0 : World} {Z : Zm} {fs : List XObj} {w : World} (_ : St w0 Z (fs) w) (_ : SlZ (flat enc_api_Node) 6 Z Aa0 ca0 a0) {q0 : Int},rec a0 a1 = some q0 →
    Calls Tryz.prog 36 #[.slice Aa0 a0.length ca0,.int .i64 a1] w (fun e w' => e = .returned (.int .i64 q0) ∧ St w0 Z (fs) w')

noncomputable def cd60 (p : List Nat) : Code := sub (bodyOf Tryz.f60) p
abbrev p60_2:=cd60 [1,1,0,0]
def cond_deep_1_1.f (rec_cond_deep : (List api_Node) → Int → Option Int) (a0 : Int) (a1 : Bool) (a2v : List api_Node) (a3v : api_Node) : Option Int :=
  (rec_cond_deep a2v a0 >>= (fun t1 => (if 0 ≤ a0 ∧ a0 < (a2v.length : Int) then (cond_bracketed.f a3v.Op ((gt a2v a0).Op) a1 >>= (fun t12 => (if t12 = true then some ((IntKind.i64.wrap (t1 + 1))) else some (t1)))) else none)))
theorem cond_deep_1_1.ok (rec_cond_deep : (List api_Node) → Int → Option Int) (hrec_cond_deep : cond_deep.Spec rec_cond_deep) {a0 : Int} {a1 : Bool} {a2v : List api_Node} {a3v : api_Node} {ba2 : Nat} {Aa2v : Option Addr} {ca2v ba3 : Nat} {q0 : Int} (hp0 : cond_deep_1_1.f rec_cond_deep a0 a1 a2v a3v = some q0) (hS0 : St w0 Z (xblk ba2 23 ([.slice Aa2v a2v.length ca2v])::xblk ba3 68 (enc_api_Node a3v)::fs) w) (ha2v : SlZ (flat enc_api_Node) 6 Z Aa2v ca2v a2v) :
    Calls Tryz.prog 60 #[.int .i64 a0,.bool a1,.pointer (some ⟨ba2,0,none⟩),.pointer (some ⟨ba3,0,none⟩)] w (fun e w' => e = .returned (.int .i64 q0) ∧ St w0 Z (xblk ba2 23 ([.slice Aa2v a2v.length ca2v])::xblk ba3 68 (enc_api_Node a3v)::fs) w'):=by
  refine calls_abs ?_; intro R hR
  unfold cond_deep_1_1.f at hp0
  refine calls_of_runs (fn:=Tryz.f60) (c:=cd60 []) Tryz.func60 (by kernel_rfl) (al:=[.int .i64 a0,.bool a1,.pointer (some ⟨ba2,0,none⟩),.pointer (some ⟨ba3,0,none⟩)]) rfl (n:=19) rfl ?_
  refine sR 6 [iR (cd60 [1,0]) 0 4,.code (cd60 [1,1])] ?_
  refine rL1 23 (.tmp 2) 0 (hS0.blk 0 rfl) ?_
  refine sR 1 [.inRegion (opsOf (cd60 [1,0])) [2,3],.code (cd60 [1,1])] ?_
  obtain ⟨t1,hr2,hp3⟩:=bind_some' hp0
  refine rC (hrec_cond_deep a2v a0 Aa2v ca2v hS0 ha2v hr2) ?_
  rintro _ w4 ⟨rfl,hS5⟩
  refine ⟨_,rfl,?_⟩
  refine sR 4 [.code p60_2,.code (cd60 [1,1,0,1]),.code (cd60 [1,1,1])] ?_
  refine r_quiet hS5 (c:=p60_2) (id:=2) (by kernel_rfl) (by kernel_rfl) (by kernel_rfl) (is:=[0,1,2,3,4,5,6,7,8]) (by kernel_rfl) ?_
  refine qR 1 (rg 1 8) ?_
  refine qL1 3 (.tmp 11) 0 (fun w hC => (hC.blk 1 rfl)) ?_
  refine qL1 23 (.tmp 2) 0 (fun w hC => (hC.blk 0 rfl)) ?_
  refine qR 1 (rg 4 5) ?_
  obtain ⟨g6,hp7⟩:=ite_some hp3
  obtain ⟨b8,p9,hA10,hc11⟩:=ha2v.atF g6.1 g6.2
  refine q_indexAddr (c:=p60_2) (i:=4) (d:=(some 15)) (ty:=0) (t:=23) (e:=68) (n:=a2v.length) (cp:=ca2v) (sz:=6) (kk:=.i64) (x:=(.tmp 13)) (y:=(.tmp 14)) (b:=b8) (o':=p9) (j:=a0) (by kernel_rfl) (by kernel_rfl) (slv (by kernel_rfl) hA10) (by kernel_rfl) (by kernel_rfl) (by kernel_rfl) g6.1 g6.2 ?_
  refine qR 1 [6,7,8] ?_
  refine qL1 3 (.tmp 16) 0 (fun w hC => (hc11.cells hC)) ?_
  refine qR 1 [8] ?_
  obtain ⟨t12,hr13,hp14⟩:=bind_some' hp7
  refine q_call1 (c:=p60_2) (i:=8) (d:=(some 19)) (v:=.bool t12) (g:=61) (args:=#[.int .i64 a3v.Op,.int .i64 ((gt a2v a0).Op),.bool a1]) (by kernel_rfl) (by kernel_rfl) (by kernel_rfl) (by kernel_rfl) (fun w hC => by
   refine (cond_bracketed.ok hr13 hC).mono ?_
   rintro e w2 ⟨rfl,h2⟩
   have hS15:=h2.pick1
   have hS16:=hS15.pick1
   exact ⟨rfl,hS16⟩) ?_
  refine Qs.nil ?_
  intro w17 hS18
  cases t12
  ·have hp19:=ite_f hp14 rfl
   refine sR 7 [.code (cd60 [1,1,1,1])] ?_
   refine rR (.int .i64 t1) Tryz.func60 ?_
   cases Option.some.inj hp19
   exact hR _ _ ⟨rfl,hS18⟩
  have hp21:=ite_t hp14 rfl
  refine sR 11 [.code (cd60 [1,1,1,1])] ?_
  refine rR (.int .i64 (IntKind.i64.wrap (t1 + 1))) Tryz.func60 ?_
  cases Option.some.inj hp21
  exact hR _ _ ⟨rfl,hS18⟩

noncomputable def cd36 (p : List Nat) : Code := sub (bodyOf Tryz.f36) p
abbrev p36_10:=cd36 [1,1,1,0,1,0,1,0,1]
abbrev p36_13:=cd36 [1,1,1,0,1,0,1,1,1,0,0]
abbrev td205:List Item:=[.code (cd36 [1,1,1,1])]
abbrev td206:List Item:=.inBlock 0::td205
abbrev td207:List Item:=.code (cd36 [1,1,1,0,1,0,1,1,1])::td206
def cond_deep.body (rec_cond_deep : (List api_Node) → Int → Option Int) (a0 : List api_Node) (a1 : Int) : Option Int :=
  (if 0 ≤ a1 ∧ a1 < (a0.length : Int) then (if (((gt a0 a1).Op) == 3) = true then (cond_deep_1_1.f rec_cond_deep ((gt a0 a1).A) false a0 (gt a0 a1) >>= (fun t20 => some ((IntKind.i64.wrap (1 + t20))))) else (((if (((gt a0 a1).Op) == 4) = true then some (true) else (if (((gt a0 a1).Op) == 5) = true then some (true) else some (false))) : Option Bool) >>= (fun t34 => (if t34 = true then (cond_deep_1_1.f rec_cond_deep ((gt a0 a1).A) false a0 (gt a0 a1) >>= (fun t45 => (cond_deep_1_1.f rec_cond_deep ((gt a0 a1).B) true a0 (gt a0 a1) >>= (fun t51 => some ((bmax t45 t51)))))) else some (0))))) else none)
theorem cond_deep.bok (rec_cond_deep : (List api_Node) → Int → Option Int) (hrec_cond_deep : cond_deep.Spec rec_cond_deep) : cond_deep.Spec (cond_deep.body rec_cond_deep):=by
  intro a0 a1 Aa0 ca0 w0 Z fs w hS0 ha0 q0 hp0
  refine calls_abs ?_; intro R hR
  unfold cond_deep.body at hp0
  refine calls_of_runs (fn:=Tryz.f36) (c:=cd36 []) Tryz.func36 (by kernel_rfl) (al:=[.slice Aa0 a0.length ca0,.int .i64 a1]) rfl (n:=31) rfl ?_
  refine sR 2 [.inRegion (opsOf (cd36 [0])) [0,1],.code (cd36 [1])] ?_
  refine r_box (c:=(cd36 [0])) (i:=0) (d:=(some 2)) (ty:=0) (x:=(.tmp 0)) (v:=.slice Aa0 a0.length ca0) (t:=23) (cs:=[.slice Aa0 a0.length ca0]) hS0 (by kernel_rfl) (by kernel_rfl) (by kernel_rfl) (by kernel_rfl) ?_
  intro b1 w2 hS3
  refine sR 4 [iR (cd36 [1,0]) 0 6,.code (cd36 [1,1])] ?_
  refine rL1 23 (.tmp 2) 0 (hS3.blk 0 rfl) ?_
  refine sR 1 [iR (cd36 [1,0]) 2 4,.code (cd36 [1,1])] ?_
  obtain ⟨g5,hp6⟩:=ite_some hp0
  obtain ⟨b7,p8,hA9,hc10⟩:=ha0.atF g5.1 g5.2
  refine r_indexAddr (c:=(cd36 [1,0])) (i:=2) (d:=(some 9)) (ty:=0) (t:=23) (e:=68) (n:=a0.length) (cp:=ca0) (sz:=6) (kk:=.i64) (x:=(.tmp 7)) (y:=(.tmp 8)) (b:=b7) (o':=p8) (j:=a1) (by kernel_rfl) (by kernel_rfl) (slv (by kernel_rfl) hA9) (by kernel_rfl) (by kernel_rfl) (by kernel_rfl) g5.1 g5.2 ?_
  refine rLa 68 (.tmp 9) (hc10.cells hS3) ?_
  refine rA 68 (.agg (enc_api_Node (⟨0,0,0,⟨0,(⟨#[]⟩ : ByteArray)⟩,0⟩ : api_Node)).toArray) (enc_api_Node (⟨0,0,0,⟨0,(⟨#[]⟩ : ByteArray)⟩,0⟩ : api_Node)) hS3 ?_
  intro b11 w12 hS13
  refine rSA 68 (.tmp 5) (.tmp 10) (enc_api_Node (gt a0 a1)) hS13 (one_api_Node _) ?_
  intro w15 hS16
  refine sR 10 (.inRegion (opsOf (cd36 [1,1,1,0,0])) [1]::.code (cd36 [1,1,1,0,1])::td205) ?_
  refine rL1 3 (.tmp 12) 0 (hS16.blk 0 rfl) ?_
  refine sI 5 (.inRegion (opsOf (cd36 [1,1,1,0,1,0,0])) [1]::.code (cd36 [1,1,1,0,1,0,1])::td206) 15 hp6 (fun hp19 => ?_) fun hp30 => ?_
  ·refine sR 7 (iR (cd36 [1,1,1,0,1,0,1,0,0]) 2 4::.code p36_10::td206) ?_
   refine rL1 3 (.tmp 17) 1 (hS16.blk 0 rfl) ?_
   obtain ⟨t20,hr21,hp22⟩:=bind_some' hp19
   have hS24:=hS16.pick1
   refine rC (cond_deep_1_1.ok rec_cond_deep hrec_cond_deep hr21 hS24 ha0) ?_
   rintro _ w25 ⟨rfl,hS26⟩
   refine ⟨_,rfl,?_⟩
   refine sR 3 (.code p36_10::td206) ?_
   have hS27:=hS26.drop
   have hS28:=hS27.drop
   refine rR (.int .i64 (IntKind.i64.wrap (1 + t20))) Tryz.func36 ?_
   cases Option.some.inj hp22
   exact hR _ _ ⟨rfl,hS28⟩
  obtain ⟨v31,hv32,hp33⟩:=bind_some' hp30
  have J37 : ∀ (t34 : Bool) (he39 : t34 = v31) (l38 : List Value) (w35 : World) (hS36 : St w0 Z (xblk b11 68 (enc_api_Node (gt a0 a1))::xblk b1 23 ([.slice Aa0 a0.length ca0])::fs) w35),Runs Tryz.prog (fx 36) td207 (fill (mk 33 [(5,.pointer (some ⟨b11,0,none⟩)),(6,.func (.func 60) #[] #[.pointer (some ⟨b1,0,none⟩),.pointer (some ⟨b11,0,none⟩)]),(21,.bool t34)]) l38) w35 R:=by
   intro t34 he39 l38 w35 hS36
   subst he39
   try dsimp only at hp33
   cases t34
   ·have hp40:=ite_f hp33 rfl
    refine sR 7 [.code (cd36 [1,1,1,1,1])] ?_
    have hS41:=hS36.drop
    have hS42:=hS41.drop
    refine rR (.int .i64 0) Tryz.func36 ?_
    cases Option.some.inj hp40
    exact hR _ _ ⟨rfl,hS42⟩
   have hp44:=ite_t hp33 rfl
   refine sR 2 (.code p36_13::.code (cd36 [1,1,1,0,1,0,1,1,1,0,1])::td206) ?_
   refine r_quiet hS36 (c:=p36_13) (id:=8) (by kernel_rfl) (by kernel_rfl) (by kernel_rfl) (is:=[0,1,2,3,4,5,6,7,8,9]) (by kernel_rfl) ?_
   refine qR 2 (rg 2 8) ?_
   refine qL1 3 (.tmp 25) 1 (fun w hC => (hC.blk 0 rfl)) ?_
   obtain ⟨t45,hr46,hp47⟩:=bind_some' hp44
   refine q_call1 (c:=p36_13) (i:=3) (d:=(some 27)) (v:=.int .i64 t45) (g:=60) (args:=#[.int .i64 ((gt a0 a1).A),.bool false,.pointer (some ⟨b1,0,none⟩),.pointer (some ⟨b11,0,none⟩)]) (by kernel_rfl) (by kernel_rfl) (by kernel_rfl) (by kernel_rfl) (fun w hC => by
    have hS49:=hC.pick1
    refine (cond_deep_1_1.ok rec_cond_deep hrec_cond_deep hr46 hS49 ha0).mono ?_
    rintro e w2 ⟨rfl,h2⟩
    have hS50:=h2.pick1
    exact ⟨rfl,hS50⟩) ?_
   refine qR 2 (rg 6 4) ?_
   refine qL1 3 (.tmp 29) 2 (fun w hC => (hC.blk 0 rfl)) ?_
   obtain ⟨t51,hr52,hp53⟩:=bind_some' hp47
   refine q_call1 (c:=p36_13) (i:=7) (d:=(some 31)) (v:=.int .i64 t51) (g:=60) (args:=#[.int .i64 ((gt a0 a1).B),.bool true,.pointer (some ⟨b1,0,none⟩),.pointer (some ⟨b11,0,none⟩)]) (by kernel_rfl) (by kernel_rfl) (by kernel_rfl) (by kernel_rfl) (fun w hC => by
    have hS55:=hC.pick1
    refine (cond_deep_1_1.ok rec_cond_deep hrec_cond_deep hr52 hS55 ha0).mono ?_
    rintro e w2 ⟨rfl,h2⟩
    have hS56:=h2.pick1
    exact ⟨rfl,hS56⟩) ?_
   refine qR 2 [] ?_
   refine Qs.nil ?_
   intro w57 hS58
   have hS59:=hS58.drop
   have hS60:=hS59.drop
   refine rR (.int .i64 (bmax t45 t51)) Tryz.func36 ?_
   cases Option.some.inj hp53
   exact hR _ _ ⟨rfl,hS60⟩
  refine sI 7 (.inRegion (opsOf (cd36 [1,1,1,0,1,0,1,1,0,0])) [1]::.code (cd36 [1,1,1,0,1,0,1,1,0,1])::td207) 22 hv32 (fun hp64 => ?_) fun hp65 => ?_
  ·refine sR 4 td207 ?_
   exact rF _ (J37 true (Option.some.inj hp64) _ _ hS16)
  refine sI 5 (.inRegion (opsOf (cd36 [1,1,1,0,1,0,1,1,0,1,1])) [1]::td207) 23 hp65 (fun hp68 => ?_) fun hp69 => ?_
  ·refine sR 2 td207 ?_
   exact rF _ (J37 true (Option.some.inj hp68) _ _ hS16)
  refine sR 2 td207 ?_
  exact rF _ (J37 false (Option.some.inj hp69) _ _ hS16)
def cond_deep.f : Nat → (List api_Node) → Int → Option Int
  | 0 => fun _ _ => none
  | n + 1 => cond_deep.body (cond_deep.f n)
theorem cond_deep.all : ∀ n,cond_deep.Spec (cond_deep.f n)
  | 0 => by
    intro a0 a1 Aa0 ca0 w0 Z fs w hS0 ha0 q0 hp0
    cases hp0
  | n + 1 => cond_deep.bok (cond_deep.f n) (cond_deep.all n)
theorem cond_deep.ok : cond_deep.Spec (cond_deep.f fuelN):=cond_deep.all fuelN

noncomputable def cd16 (p : List Nat) : Code := sub (bodyOf Tryz.f16) p
abbrev p16_6:=cd16 [1,1,1]
def cond_Check.f (a0 : List api_Node) : Option Int :=
  (cond_makes.f a0 >>= (fun t1 => (if (!t1) = true then some (60) else (cond_deep.f fuelN a0 (IntKind.i64.wrap ((a0.length : Int) - 1)) >>= (fun t11 => (if (decide (t11 > 64)) = true then some (2) else some (0)))))))
theorem cond_Check.ok {a0 : List api_Node} {Aa0 : Option Addr} {ca0 : Nat} {q0 : Int} (hp0 : cond_Check.f a0 = some q0) (hS0 : St w0 Z (fs) w) (ha0 : SlZ (flat enc_api_Node) 6 Z Aa0 ca0 a0) :
    Calls Tryz.prog 16 #[.slice Aa0 a0.length ca0] w (fun e w' => e = .returned (.int .i64 q0) ∧ St w0 Z (fs) w'):=by
  refine calls_abs ?_; intro R hR
  unfold cond_Check.f at hp0
  refine calls_of_runs (fn:=Tryz.f16) (c:=cd16 []) Tryz.func16 (by kernel_rfl) (al:=[.slice Aa0 a0.length ca0]) rfl (n:=11) rfl ?_
  refine sR 8 [.inRegion (opsOf (cd16 [1,0,0])) [1,2],.code (cd16 [1,0,1]),.code (cd16 [1,1])] ?_
  obtain ⟨t1,hr2,hp3⟩:=bind_some' hp0
  refine rC (cond_makes.ok hr2 hS0 ha0) ?_
  rintro _ w4 ⟨rfl,hS5⟩
  refine ⟨_,rfl,?_⟩
  refine sI 1 [.inRegion (opsOf (cd16 [1,0,0])) [],.code (cd16 [1,0,1]),.code (cd16 [1,1])] 5 hp3 (fun hp8 => ?_) fun hp10 => ?_
  ·refine sR 6 [.code (cd16 [1,0,1,0,1]),.code (cd16 [1,1])] ?_
   refine rR (.int .i64 60) Tryz.func16 ?_
   cases Option.some.inj hp8
   exact hR _ _ ⟨rfl,hS5⟩
  refine sR 10 [.inRegion (opsOf (cd16 [1,1,0,0])) [4,5],.code (cd16 [1,1,0,1]),.code p16_6] ?_
  obtain ⟨t11,hr12,hp13⟩:=bind_some' hp10
  refine rC (cond_deep.ok a0 (IntKind.i64.wrap ((a0.length : Int) - 1)) Aa0 ca0 hS5 ha0 hr12) ?_
  rintro _ w14 ⟨rfl,hS15⟩
  refine ⟨_,rfl,?_⟩
  refine sI 1 [.inRegion (opsOf (cd16 [1,1,0,0])) [],.code (cd16 [1,1,0,1]),.code p16_6] 11 hp13 (fun hp18 => ?_) fun hp20 => ?_
  ·refine sR 6 [.code (cd16 [1,1,0,1,0,1]),.code p16_6] ?_
   refine rR (.int .i64 2) Tryz.func16 ?_
   cases Option.some.inj hp18
   exact hR _ _ ⟨rfl,hS15⟩
  refine sR 7 [.code (cd16 [1,1,1,1])] ?_
  refine rR (.int .i64 0) Tryz.func16 ?_
  cases Option.some.inj hp20
  exact hR _ _ ⟨rfl,hS15⟩

noncomputable def cd56 (p : List Nat) : Code := sub (bodyOf Tryz.f56) p
abbrev p56_4:=cd56 [1,1]
abbrev p56_7:=cd56 [1,1,0]
def cond_refText.f (a0 : api_Ref) : Option ByteArray :=
  (if (decide (a0.Thread < 0)) = true then some (a0.Name) else (strconv_Itoa.f a0.Thread >>= (fun t11 => (if t11.size + (⟨#[58]⟩ : ByteArray).size ≤ 9223372036854775807 then (if (t11 ++ (⟨#[58]⟩ : ByteArray)).size + a0.Name.size ≤ 9223372036854775807 then some (((t11 ++ (⟨#[58]⟩ : ByteArray)) ++ a0.Name)) else none) else none))))
theorem cond_refText.ok {a0 : api_Ref} {q0 : ByteArray} (hp0 : cond_refText.f a0 = some q0) (hS0 : St w0 Z (fs) w) (hE : Env Z) :
    Calls Tryz.prog 56 #[.agg (enc_api_Ref a0).toArray] w (fun e w' => e = .returned (.string q0) ∧ St w0 Z (fs) w'):=by
  refine calls_abs ?_; intro R hR
  unfold cond_refText.f at hp0
  refine calls_of_runs (fn:=Tryz.f56) (c:=cd56 []) Tryz.func56 (by kernel_rfl) (al:=[.agg (enc_api_Ref a0).toArray]) rfl (n:=14) rfl ?_
  refine sR 2 [.inRegion (opsOf (cd56 [0])) [0,1],.code (cd56 [1])] ?_
  refine r_box (c:=(cd56 [0])) (i:=0) (d:=(some 1)) (ty:=0) (x:=(.tmp 0)) (v:=.agg (enc_api_Ref a0).toArray) (t:=66) (cs:=enc_api_Ref a0) hS0 (by kernel_rfl) (by kernel_rfl) (by kernel_rfl) (by kernel_rfl) ?_
  intro b1 w2 hS3
  refine sR 6 [.inRegion (opsOf (cd56 [1,0,0])) [1,2],.code (cd56 [1,0,1]),.code p56_4] ?_
  refine rL1 3 (.tmp 3) 0 (hS3.blk 0 rfl) ?_
  refine sI 1 [.inRegion (opsOf (cd56 [1,0,0])) [],.code (cd56 [1,0,1]),.code p56_4] 5 hp0 (fun hp7 => ?_) fun hp10 => ?_
  ·refine sR 5 [.inRegion (opsOf (cd56 [1,0,1,0,0])) [1,2],.code (cd56 [1,0,1,0,1]),.code p56_4] ?_
   refine rL1 9 (.tmp 6) 1 (hS3.blk 0 rfl) ?_
   refine sR 2 [.code (cd56 [1,0,1,0,1]),.code p56_4] ?_
   have hS8:=hS3.drop
   refine rR (.string a0.Name) Tryz.func56 ?_
   cases Option.some.inj hp7
   exact hR _ _ ⟨rfl,hS8⟩
  refine sR 4 [.code p56_7,.code (cd56 [1,1,1])] ?_
  refine r_quiet hS3 (c:=p56_7) (id:=3) (by kernel_rfl) (by kernel_rfl) (by kernel_rfl) (is:=[0,1,2,3,4,5,6,7]) (by kernel_rfl) ?_
  refine qR 1 (rg 1 7) ?_
  refine qL1 3 (.tmp 8) 0 (fun w hC => (hC.blk 0 rfl)) ?_
  obtain ⟨t11,hr12,hp13⟩:=bind_some' hp10
  refine q_call1 (c:=p56_7) (i:=2) (d:=(some 10)) (v:=.string t11) (g:=86) (args:=#[.int .i64 a0.Thread]) (by kernel_rfl) (by kernel_rfl) (by kernel_rfl) (by kernel_rfl) (fun w hC => by
   refine (strconv_Itoa.ok a0.Thread hC hE hr12).mono ?_
   rintro e w2 ⟨rfl,h2⟩
   exact ⟨rfl,h2⟩) ?_
  obtain ⟨g14,hp15⟩:=ite_some hp13
  refine qV (.binOp .add 9 (.tmp 10) (.const (.string (⟨#[58]⟩ : ByteArray))) 9) (.string (t11 ++ (⟨#[58]⟩ : ByteArray))) (fun w hC o ho _ => x_concat (by kernel_rfl) (by kernel_rfl) g14 ho) ?_
  refine qR 1 [5,6,7] ?_
  refine qL1 9 (.tmp 12) 1 (fun w hC => (hC.blk 0 rfl)) ?_
  obtain ⟨g16,hp17⟩:=ite_some hp15
  refine qV (.binOp .add 9 (.tmp 11) (.tmp 13) 9) (.string ((t11 ++ (⟨#[58]⟩ : ByteArray)) ++ a0.Name)) (fun w hC o ho _ => x_concat (by kernel_rfl) (by kernel_rfl) g16 ho) ?_
  refine qR 1 [] ?_
  refine Qs.nil ?_
  intro w18 hS19
  have hS20:=hS19.drop
  refine rR (.string ((t11 ++ (⟨#[58]⟩ : ByteArray)) ++ a0.Name)) Tryz.func56 ?_
  cases Option.some.inj hp17
  exact hR _ _ ⟨rfl,hS20⟩

noncomputable def cd57 (p : List Nat) : Code := sub (bodyOf Tryz.f57) p
def word_Text.f (a0 : Int) : Option ByteArray :=
  (strconv_FormatInt.f a0 10 >>= (fun t1 => some (t1)))
theorem word_Text.ok {a0 : Int} {q0 : ByteArray} (hp0 : word_Text.f a0 = some q0) (hS0 : St w0 Z (fs) w) (hE : Env Z) :
    Calls Tryz.prog 57 #[.int .i64 a0] w (fun e w' => e = .returned (.string q0) ∧ St w0 Z (fs) w'):=by
  refine calls_abs ?_; intro R hR
  unfold word_Text.f at hp0
  refine calls_of_runs (fn:=Tryz.f57) (c:=cd57 []) Tryz.func57 (by kernel_rfl) (al:=[.int .i64 a0]) rfl (n:=4) rfl ?_
  refine sR 7 [.inRegion (opsOf (cd57 [1,0])) [1,2],.code (cd57 [1,1])] ?_
  obtain ⟨t1,hr2,hp3⟩:=bind_some' hp0
  refine rC (strconv_FormatInt.ok a0 10 hS0 hE hr2) ?_
  rintro _ w4 ⟨rfl,hS5⟩
  refine ⟨_,rfl,?_⟩
  refine sR 2 [.code (cd57 [1,1])] ?_
  refine rR (.string t1) Tryz.func57 ?_
  cases Option.some.inj hp3
  exact hR _ _ ⟨rfl,hS5⟩

def cond_writer__node.Spec (rec : ByteArray → (List api_Node) → Int → Option ByteArray) : Prop:=∀ (a0s : ByteArray) (a0p0 : List api_Node) (a1 : Int) (ba0 : Nat) (Aa0 : Option Addr) (ca0 : Nat) (Aa0p0 : Option Addr) (ca0p0 : Nat) {w0 : World} {Z : Zm} {fs : List XObj} {w : World} (_ : St w0 Z (xbld ba0 (.slice Aa0p0 a0p0.length ca0p0) Aa0 ca0 a0s::fs) w) (_ : SlZ (flat enc_api_Node) 6 Z Aa0p0 ca0p0 a0p0) (_ : Env Z) {q0 : ByteArray},rec a0s a0p0 a1 = some q0 →
    Calls Tryz.prog 33 #[.pointer (some ⟨ba0,0,none⟩),.int .i64 a1] w (fun e w' => ∃ (QA0 : Option Addr) (Qc0 : Nat),e = .returned (.tuple #[]) ∧ St w0 Z (xbld ba0 (.slice Aa0p0 a0p0.length ca0p0) QA0 Qc0 q0::fs) w')

noncomputable def cd58 (p : List Nat) : Code := sub (bodyOf Tryz.f58) p
abbrev p58_0:=cd58 [0,0]
abbrev td208:List Item:=[.code (cd58 [1])]
abbrev td209:List Item:=.code (cd58 [0,1])::td208
def cond_writer__part_1.f (rec_cond_writer__node : ByteArray → (List api_Node) → Int → Option ByteArray) (a0s : ByteArray) (a0p0 : List api_Node) (a1 a2 : Int) (a3 : Bool) : Option ByteArray :=
  (if 0 ≤ a2 ∧ a2 < (a0p0.length : Int) then (cond_bracketed.f a1 ((gt a0p0 a2).Op) a3 >>= (fun t7 => (if t7 = true then (bd_write.f a0s (⟨#[40]⟩ : ByteArray) >>= (fun (t22,t23) => (rec_cond_writer__node t23 a0p0 a2 >>= (fun t30 => (bd_write.f t30 (⟨#[41]⟩ : ByteArray) >>= (fun (t37,t38) => some (t38))))))) else (rec_cond_writer__node a0s a0p0 a2 >>= (fun t13 => some (t13)))))) else none)
theorem cond_writer__part_1.ok (rec_cond_writer__node : ByteArray → (List api_Node) → Int → Option ByteArray) (hrec_cond_writer__node : cond_writer__node.Spec rec_cond_writer__node) {a0s : ByteArray} {a0p0 : List api_Node} {a1 a2 : Int} {a3 : Bool} {ba0 : Nat} {Aa0 : Option Addr} {ca0 : Nat} {Aa0p0 : Option Addr} {ca0p0 : Nat} {q0 : ByteArray} (hp0 : cond_writer__part_1.f rec_cond_writer__node a0s a0p0 a1 a2 a3 = some q0) (hS0 : St w0 Z (xbld ba0 (.slice Aa0p0 a0p0.length ca0p0) Aa0 ca0 a0s::fs) w) (ha0p0 : SlZ (flat enc_api_Node) 6 Z Aa0p0 ca0p0 a0p0) (hE : Env Z) :
    Calls Tryz.prog 58 #[.pointer (some ⟨ba0,0,none⟩),.int .i64 a1,.int .i64 a2,.bool a3] w (fun e w' => ∃ (QA0 : Option Addr) (Qc0 : Nat),e = .returned (.tuple #[]) ∧ St w0 Z (xbld ba0 (.slice Aa0p0 a0p0.length ca0p0) QA0 Qc0 q0::fs) w'):=by
  refine calls_abs ?_; intro R hR
  unfold cond_writer__part_1.f at hp0
  refine calls_of_runs (fn:=Tryz.f58) (c:=cd58 []) Tryz.func58 (by kernel_rfl) (al:=[.pointer (some ⟨ba0,0,none⟩),.int .i64 a1,.int .i64 a2,.bool a3]) rfl (n:=29) rfl ?_
  refine sR 7 (iR p58_0 4 7::td209) ?_
  refine rL1 23 (.tmp 11) 0 (hS0.bldpre 0 rfl) ?_
  refine sR 1 (iR p58_0 6 5::td209) ?_
  obtain ⟨g1,hp2⟩:=ite_some hp0
  obtain ⟨b3,p4,hA5,hc6⟩:=ha0p0.atF g1.1 g1.2
  refine r_indexAddr (c:=p58_0) (i:=6) (d:=(some 14)) (ty:=0) (t:=23) (e:=68) (n:=a0p0.length) (cp:=ca0p0) (sz:=6) (kk:=.i64) (x:=(.tmp 12)) (y:=(.tmp 13)) (b:=b3) (o':=p4) (j:=a2) (by kernel_rfl) (by kernel_rfl) (slv (by kernel_rfl) hA5) (by kernel_rfl) (by kernel_rfl) (by kernel_rfl) g1.1 g1.2 ?_
  refine sR 1 (.inRegion (opsOf p58_0) [8,9,10]::td209) ?_
  refine rL1 3 (.tmp 15) 0 (hc6.cells hS0) ?_
  refine sR 1 (.inRegion (opsOf p58_0) [10]::td209) ?_
  obtain ⟨t7,hr8,hp9⟩:=bind_some' hp2
  refine rC (cond_bracketed.ok hr8 hS0) ?_
  rintro _ w10 ⟨rfl,hS11⟩
  refine ⟨_,rfl,?_⟩
  refine sR 1 td209 ?_
  cases t7
  ·have hp12:=ite_f hp9 rfl
   refine sR 5 [.inRegion (opsOf (cd58 [1])) [2]] ?_
   obtain ⟨t13,hr16,hp17⟩:=bind_some' hp12
   refine rC (hrec_cond_writer__node a0s a0p0 a2 ba0 Aa0 ca0 Aa0p0 ca0p0 hS11 ha0p0 hE hr16) ?_
   rintro _ w18 ⟨Q14,Q15,rfl,hS19⟩
   refine ⟨_,rfl,?_⟩
   refine sR 1 [] ?_
   refine runs_end (fn:=Tryz.f58) (v:=.tuple #[]) Tryz.func58 (by kernel_rfl) ?_
   cases Option.some.inj hp17
   exact hR _ _ ⟨Q14,Q15,rfl,hS19⟩
  have hp21:=ite_t hp9 rfl
  refine sR 6 (.inRegion (opsOf (cd58 [0,1,0,0])) [3]::.code (cd58 [0,1,0,1])::td208) ?_
  obtain ⟨⟨t22,t23⟩,hr26,hp27⟩:=bind_some' hp21
  try dsimp only at hp27
  refine rC (bd_write.ok a0s (⟨#[40]⟩ : ByteArray) ba0 (.slice Aa0p0 a0p0.length ca0p0) Aa0 ca0 hS11 hr26) ?_
  rintro _ w28 ⟨Q24,Q25,rfl,hS29⟩
  refine ⟨_,rfl,?_⟩
  refine sR 5 (.inRegion (opsOf (cd58 [0,1,0,1,0])) [2]::.code (cd58 [0,1,0,1,1])::td208) ?_
  obtain ⟨t30,hr33,hp34⟩:=bind_some' hp27
  refine rC (hrec_cond_writer__node t23 a0p0 a2 ba0 Q24 Q25 Aa0p0 ca0p0 hS29 ha0p0 hE hr33) ?_
  rintro _ w35 ⟨Q31,Q32,rfl,hS36⟩
  refine ⟨_,rfl,?_⟩
  refine sR 6 (.inRegion (opsOf (cd58 [0,1,0,1,1,0])) [3]::.code (cd58 [0,1,0,1,1,1])::td208) ?_
  obtain ⟨⟨t37,t38⟩,hr41,hp42⟩:=bind_some' hp34
  try dsimp only at hp42
  refine rC (bd_write.ok t30 (⟨#[41]⟩ : ByteArray) ba0 (.slice Aa0p0 a0p0.length ca0p0) Q31 Q32 hS36 hr41) ?_
  rintro _ w43 ⟨Q39,Q40,rfl,hS44⟩
  refine ⟨_,rfl,?_⟩
  refine sR 1 (.code (cd58 [0,1,0,1,1,1])::td208) ?_
  refine rR (.tuple #[]) Tryz.func58 ?_
  cases Option.some.inj hp42
  exact hR _ _ ⟨Q39,Q40,rfl,hS44⟩

noncomputable def cd33 (p : List Nat) : Code := sub (bodyOf Tryz.f33) p
abbrev p33_9:=cd33 [1,1,0,1,1,1,0]
abbrev p33_13:=cd33 [1,1,0,1,1,1,1,1,0,1]
abbrev p33_14:=cd33 [1,1,0,1,1,1,1,1,1,0]
abbrev p33_15:=cd33 [1,1,0,1,1,1,1,1,1,1]
abbrev p33_16:=cd33 [1,1,0,1,1,1,1,1,1,1,0,0]
abbrev p33_17:=cd33 [1,1,0,1,1,1,1,1,1,1,0,1]
abbrev p33_18:=cd33 [1,1,0,1,1,1,1,1,1,1,1]
abbrev td210:List Item:=[.inBlock 0]
abbrev td211:List Item:=.code p33_18::td210
def cond_writer__node.body (rec_cond_writer__node : ByteArray → (List api_Node) → Int → Option ByteArray) (a0s : ByteArray) (a0p0 : List api_Node) (a1 : Int) : Option ByteArray :=
  (if 0 ≤ a1 ∧ a1 < (a0p0.length : Int) then (if (((gt a0p0 a1).Op) == 1) = true then (bd_write.f a0s (⟨#[116,114,117,101]⟩ : ByteArray) >>= (fun (t16,t17) => some (t17))) else (if (((gt a0p0 a1).Op) == 2) = true then (cond_refText.f ((gt a0p0 a1).Ref) >>= (fun t32 => (if t32.size + (⟨#[61]⟩ : ByteArray).size ≤ 9223372036854775807 then (word_Text.f ((gt a0p0 a1).Value) >>= (fun t39 => (if (t32 ++ (⟨#[61]⟩ : ByteArray)).size + t39.size ≤ 9223372036854775807 then (bd_write.f a0s ((t32 ++ (⟨#[61]⟩ : ByteArray)) ++ t39) >>= (fun (t48,t49) => some (t49))) else none))) else none))) else (if (((gt a0p0 a1).Op) == 3) = true then (bd_write.f a0s (⟨#[126]⟩ : ByteArray) >>= (fun (t64,t65) => (cond_writer__part_1.f rec_cond_writer__node t65 a0p0 ((gt a0p0 a1).Op) ((gt a0p0 a1).A) false >>= (fun t73 => some (t73))))) else (cond_writer__part_1.f rec_cond_writer__node a0s a0p0 ((gt a0p0 a1).Op) ((gt a0p0 a1).A) false >>= (fun t84 => (((if (((gt a0p0 a1).Op) == 4) = true then (bd_write.f t84 (⟨#[32,47,92,32]⟩ : ByteArray) >>= (fun (t116,t117) => some (t117))) else (bd_write.f t84 (⟨#[32,92,47,32]⟩ : ByteArray) >>= (fun (t125,t126) => some (t126)))) : Option ByteArray) >>= (fun t95 => (cond_writer__part_1.f rec_cond_writer__node t95 a0p0 ((gt a0p0 a1).Op) ((gt a0p0 a1).B) true >>= (fun t103 => some (t103)))))))))) else none)
theorem cond_writer__node.bok (rec_cond_writer__node : ByteArray → (List api_Node) → Int → Option ByteArray) (hrec_cond_writer__node : cond_writer__node.Spec rec_cond_writer__node) : cond_writer__node.Spec (cond_writer__node.body rec_cond_writer__node):=by
  intro a0s a0p0 a1 ba0 Aa0 ca0 Aa0p0 ca0p0 w0 Z fs w hS0 ha0p0 hE q0 hp0
  refine calls_abs ?_; intro R hR
  unfold cond_writer__node.body at hp0
  refine calls_of_runs (fn:=Tryz.f33) (c:=cd33 []) Tryz.func33 (by kernel_rfl) (al:=[.pointer (some ⟨ba0,0,none⟩),.int .i64 a1]) rfl (n:=67) rfl ?_
  refine sR 5 [iR (cd33 [0]) 3 6,.code (cd33 [1])] ?_
  refine rL1 23 (.tmp 7) 0 (hS0.bldpre 0 rfl) ?_
  refine sR 1 [iR (cd33 [0]) 5 4,.code (cd33 [1])] ?_
  obtain ⟨g1,hp2⟩:=ite_some hp0
  obtain ⟨b3,p4,hA5,hc6⟩:=ha0p0.atF g1.1 g1.2
  refine r_indexAddr (c:=(cd33 [0])) (i:=5) (d:=(some 10)) (ty:=0) (t:=23) (e:=68) (n:=a0p0.length) (cp:=ca0p0) (sz:=6) (kk:=.i64) (x:=(.tmp 8)) (y:=(.tmp 9)) (b:=b3) (o':=p4) (j:=a1) (by kernel_rfl) (by kernel_rfl) (slv (by kernel_rfl) hA5) (by kernel_rfl) (by kernel_rfl) (by kernel_rfl) g1.1 g1.2 ?_
  refine rLa 68 (.tmp 10) (hc6.cells hS0) ?_
  refine rA 68 (.agg (enc_api_Node (⟨0,0,0,⟨0,(⟨#[]⟩ : ByteArray)⟩,0⟩ : api_Node)).toArray) (enc_api_Node (⟨0,0,0,⟨0,(⟨#[]⟩ : ByteArray)⟩,0⟩ : api_Node)) hS0 ?_
  intro b7 w8 hS9
  refine rSA 68 (.tmp 4) (.tmp 11) (enc_api_Node (gt a0p0 a1)) hS9 (one_api_Node _) ?_
  intro w11 hS12
  refine sR 4 [.inRegion (opsOf (cd33 [1,0])) [1],.code (cd33 [1,1])] ?_
  refine rL1 3 (.tmp 12) 0 (hS12.blk 0 rfl) ?_
  refine sI 5 (.inRegion (opsOf (cd33 [1,1,0,0])) [1]::.code (cd33 [1,1,0,1])::td210) 38 hp2 (fun hp15 => ?_) fun hp28 => ?_
  ·refine sR 7 (.inRegion (opsOf (cd33 [1,1,0,1,0])) [3]::td210) ?_
   obtain ⟨⟨t16,t17⟩,hr20,hp21⟩:=bind_some' hp15
   try dsimp only at hp21
   have hS22:=hS12.pick1
   refine rC (bd_write.ok a0s (⟨#[116,114,117,101]⟩ : ByteArray) ba0 (.slice Aa0p0 a0p0.length ca0p0) Aa0 ca0 hS22 hr20) ?_
   rintro _ w23 ⟨Q18,Q19,rfl,hS24⟩
   refine ⟨_,rfl,?_⟩
   refine sR 2 [] ?_
   have hS25:=hS24.pick1
   have hS26:=hS25.drop
   refine runs_end (fn:=Tryz.f33) (v:=.tuple #[]) Tryz.func33 (by kernel_rfl) ?_
   cases Option.some.inj hp21
   exact hR _ _ ⟨Q18,Q19,rfl,hS26⟩
  refine sI 6 (.inRegion (opsOf (cd33 [1,1,0,1,1,0])) [1]::.code (cd33 [1,1,0,1,1,1])::td210) 44 hp28 (fun hp31 => ?_) fun hp60 => ?_
  ·refine sR 3 (.code p33_9::td210) ?_
   refine r_drawn3 (C:=St w0 Z (xblk b7 68 (enc_api_Node (gt a0p0 a1))::xbld ba0 (.slice Aa0p0 a0p0.length ca0p0) Aa0 ca0 a0s::fs)) (c:=p33_9) (id:=10) (by kernel_rfl) (by kernel_rfl) 11 (Nat.le_of_ble_eq_true (by kernel_rfl)) (by kernel_rfl) (by kernel_rfl) (by kernel_rfl) (is:=[0,1,2,3,4,5,6,7,8,9,10]) (rest:=[11]) (by kernel_rfl) (by kernel_rfl) hS12.drew ?_
   refine qR 4 (rg 4 7) ?_
   refine qLa 66 (.tmp 48) (fun w hC => (sub_api_Node_Ref (hC.blk 0 rfl))) ?_
   obtain ⟨t32,hr33,hp34⟩:=bind_some' hp31
   refine q_call1 (c:=(hd p33_9 11)) (i:=5) (d:=(some 50)) (v:=.string t32) (g:=56) (args:=#[.agg (enc_api_Ref ((gt a0p0 a1).Ref)).toArray]) (by kernel_rfl) (by kernel_rfl) (by kernel_rfl) (by kernel_rfl) (fun w hC => by
    refine (cond_refText.ok hr33 hC hE).mono ?_
    rintro e w2 ⟨rfl,h2⟩
    have hS35:=h2.pick1
    have hS36:=hS35.pick1
    exact ⟨rfl,hS36⟩) ?_
   obtain ⟨g37,hp38⟩:=ite_some hp34
   refine qV (.binOp .add 9 (.tmp 50) (.const (.string (⟨#[61]⟩ : ByteArray))) 9) (.string (t32 ++ (⟨#[61]⟩ : ByteArray))) (fun w hC o ho _ => x_concat (by kernel_rfl) (by kernel_rfl) g37 ho) ?_
   refine qR 1 [8,9,10] ?_
   refine qL1 2 (.tmp 52) 5 (fun w hC => (hC.blk 0 rfl)) ?_
   obtain ⟨t39,hr40,hp41⟩:=bind_some' hp38
   refine q_call1 (c:=(hd p33_9 11)) (i:=9) (d:=(some 54)) (v:=.string t39) (g:=57) (args:=#[.int .i64 ((gt a0p0 a1).Value)]) (by kernel_rfl) (by kernel_rfl) (by kernel_rfl) (by kernel_rfl) (fun w hC => by
    refine (word_Text.ok hr40 hC hE).mono ?_
    rintro e w2 ⟨rfl,h2⟩
    have hS42:=h2.pick1
    have hS43:=hS42.pick1
    exact ⟨rfl,hS43⟩) ?_
   obtain ⟨g44,hp45⟩:=ite_some hp41
   refine qV (.binOp .add 9 (.tmp 51) (.tmp 54) 9) (.string ((t32 ++ (⟨#[61]⟩ : ByteArray)) ++ t39)) (fun w hC o ho _ => x_concat (by kernel_rfl) (by kernel_rfl) g44 ho) ?_
   refine Qs.nil ?_
   intro w46 hS47
   obtain ⟨⟨t48,t49⟩,hr52,hp53⟩:=bind_some' hp45
   try dsimp only at hp53
   have hS54:=hS47.pick1
   refine rC (bd_write.ok a0s ((t32 ++ (⟨#[61]⟩ : ByteArray)) ++ t39) ba0 (.slice Aa0p0 a0p0.length ca0p0) Aa0 ca0 hS54 hr52) ?_
   rintro _ w55 ⟨Q50,Q51,rfl,hS56⟩
   refine ⟨_,rfl,?_⟩
   refine sR 2 [] ?_
   have hS57:=hS56.pick1
   have hS58:=hS57.drop
   refine runs_end (fn:=Tryz.f33) (v:=.tuple #[]) Tryz.func33 (by kernel_rfl) ?_
   cases Option.some.inj hp53
   exact hR _ _ ⟨Q50,Q51,rfl,hS58⟩
  refine sI 6 (.inRegion (opsOf (cd33 [1,1,0,1,1,1,1,0])) [1]::.code (cd33 [1,1,0,1,1,1,1,1])::td210) 58 hp60 (fun hp63 => ?_) fun hp83 => ?_
  ·refine sR 8 (.inRegion (opsOf (cd33 [1,1,0,1,1,1,1,1,0,0])) [3]::.code p33_13::td210) ?_
   obtain ⟨⟨t64,t65⟩,hr68,hp69⟩:=bind_some' hp63
   try dsimp only at hp69
   have hS70:=hS12.pick1
   refine rC (bd_write.ok a0s (⟨#[126]⟩ : ByteArray) ba0 (.slice Aa0p0 a0p0.length ca0p0) Aa0 ca0 hS70 hr68) ?_
   rintro _ w71 ⟨Q66,Q67,rfl,hS72⟩
   refine ⟨_,rfl,?_⟩
   refine sR 4 (iR p33_13 2 4::td210) ?_
   refine rL1 3 (.tmp 64) 0 (hS72.blk 1 rfl) ?_
   refine sR 1 (.inRegion (opsOf p33_13) [4,5]::td210) ?_
   refine rL1 3 (.tmp 66) 1 (hS72.blk 1 rfl) ?_
   obtain ⟨t73,hr76,hp77⟩:=bind_some' hp69
   refine rC (cond_writer__part_1.ok rec_cond_writer__node hrec_cond_writer__node hr76 hS72 ha0p0 hE) ?_
   rintro _ w78 ⟨Q74,Q75,rfl,hS79⟩
   refine ⟨_,rfl,?_⟩
   refine sR 2 [] ?_
   have hS80:=hS79.pick1
   have hS81:=hS80.drop
   refine runs_end (fn:=Tryz.f33) (v:=.tuple #[]) Tryz.func33 (by kernel_rfl) ?_
   cases Option.some.inj hp77
   exact hR _ _ ⟨Q74,Q75,rfl,hS81⟩
  refine sR 7 (iR p33_14 2 4::.code p33_15::td210) ?_
  refine rL1 3 (.tmp 15) 0 (hS12.blk 0 rfl) ?_
  refine sR 1 (.inRegion (opsOf p33_14) [4,5]::.code p33_15::td210) ?_
  refine rL1 3 (.tmp 17) 1 (hS12.blk 0 rfl) ?_
  obtain ⟨t84,hr87,hp88⟩:=bind_some' hp83
  have hS89:=hS12.pick1
  refine rC (cond_writer__part_1.ok rec_cond_writer__node hrec_cond_writer__node hr87 hS89 ha0p0 hE) ?_
  rintro _ w90 ⟨Q85,Q86,rfl,hS91⟩
  refine ⟨_,rfl,?_⟩
  refine sR 5 (.inRegion (opsOf p33_16) [1,2]::.code p33_17::td211) ?_
  refine rL1 3 (.tmp 20) 0 (hS91.blk 1 rfl) ?_
  obtain ⟨v92,hv93,hp94⟩:=bind_some' hp88
  have J100 : ∀ (t95 : ByteArray) (he102 : t95 = v92) (l101 : List Value) (A96 : Option Addr) (c97 : Nat) (w98 : World) (hS99 : St w0 Z (xbld ba0 (.slice Aa0p0 a0p0.length ca0p0) A96 c97 t95::xblk b7 68 (enc_api_Node (gt a0p0 a1))::fs) w98),Runs Tryz.prog (fx 33) td211 (fill (mk 69 [(0,.pointer (some ⟨ba0,0,none⟩)),(4,.pointer (some ⟨b7,0,none⟩))]) l101) w98 R:=by
   intro t95 he102 l101 A96 c97 w98 hS99
   subst he102
   try dsimp only at hp94
   refine sR 3 (iR p33_18 2 4::td210) ?_
   refine rL1 3 (.tmp 32) 0 (hS99.blk 1 rfl) ?_
   refine sR 1 (.inRegion (opsOf p33_18) [4,5]::td210) ?_
   refine rL1 3 (.tmp 34) 2 (hS99.blk 1 rfl) ?_
   obtain ⟨t103,hr106,hp107⟩:=bind_some' hp94
   refine rC (cond_writer__part_1.ok rec_cond_writer__node hrec_cond_writer__node hr106 hS99 ha0p0 hE) ?_
   rintro _ w108 ⟨Q104,Q105,rfl,hS109⟩
   refine ⟨_,rfl,?_⟩
   refine sR 2 [] ?_
   have hS110:=hS109.pick1
   have hS111:=hS110.drop
   refine runs_end (fn:=Tryz.f33) (v:=.tuple #[]) Tryz.func33 (by kernel_rfl) ?_
   cases Option.some.inj hp107
   exact hR _ _ ⟨Q104,Q105,rfl,hS111⟩
  refine sI 1 (.inRegion (opsOf p33_16) []::.code p33_17::td211) 22 hv93 (fun hp115 => ?_) fun hp124 => ?_
  ·refine sR 6 (.inRegion (opsOf (cd33 [1,1,0,1,1,1,1,1,1,1,0,1,0])) [3]::td211) ?_
   obtain ⟨⟨t116,t117⟩,hr120,hp121⟩:=bind_some' hp115
   try dsimp only at hp121
   refine rC (bd_write.ok t84 (⟨#[32,47,92,32]⟩ : ByteArray) ba0 (.slice Aa0p0 a0p0.length ca0p0) Q85 Q86 hS91 hr120) ?_
   rintro _ w122 ⟨Q118,Q119,rfl,hS123⟩
   refine ⟨_,rfl,?_⟩
   refine sR 1 td211 ?_
   exact rF _ (J100 t117 (Option.some.inj hp121) _ Q118 Q119 _ hS123)
  refine sR 6 (.inRegion (opsOf (cd33 [1,1,0,1,1,1,1,1,1,1,0,1,1])) [3]::td211) ?_
  obtain ⟨⟨t125,t126⟩,hr129,hp130⟩:=bind_some' hp124
  try dsimp only at hp130
  refine rC (bd_write.ok t84 (⟨#[32,92,47,32]⟩ : ByteArray) ba0 (.slice Aa0p0 a0p0.length ca0p0) Q85 Q86 hS91 hr129) ?_
  rintro _ w131 ⟨Q127,Q128,rfl,hS132⟩
  refine ⟨_,rfl,?_⟩
  refine sR 1 td211 ?_
  exact rF _ (J100 t126 (Option.some.inj hp130) _ Q127 Q128 _ hS132)
def cond_writer__node.f : Nat → ByteArray → (List api_Node) → Int → Option ByteArray
  | 0 => fun _ _ _ => none
  | n + 1 => cond_writer__node.body (cond_writer__node.f n)
theorem cond_writer__node.all : ∀ n,cond_writer__node.Spec (cond_writer__node.f n)
  | 0 => by
    intro a0s a0p0 a1 ba0 Aa0 ca0 Aa0p0 ca0p0 w0 Z fs w hS0 ha0p0 hE q0 hp0
    cases hp0
  | n + 1 => cond_writer__node.bok (cond_writer__node.f n) (cond_writer__node.all n)
theorem cond_writer__node.ok : cond_writer__node.Spec (cond_writer__node.f fuelN):=cond_writer__node.all fuelN

noncomputable def cd14 (p : List Nat) : Code := sub (bodyOf Tryz.f14) p
def cond_Text.f (a0 : List api_Node) : Option (ByteArray × Int) :=
  (cond_Check.f a0 >>= (fun t1 => (if (t1 != 0) = true then some (((⟨#[]⟩ : ByteArray),t1)) else (cond_writer__node.f fuelN (⟨#[]⟩ : ByteArray) a0 (IntKind.i64.wrap ((a0.length : Int) - 1)) >>= (fun t16 => (bd_string.f t16 >>= (fun t23 => some ((t23,0)))))))))
theorem cond_Text.ok {a0 : List api_Node} {Aa0 : Option Addr} {ca0 : Nat} {q0 : ByteArray} {q1 : Int} (hp0 : cond_Text.f a0 = some (q0,q1)) (hS0 : St w0 Z (fs) w) (ha0 : SlZ (flat enc_api_Node) 6 Z Aa0 ca0 a0) (hE : Env Z) :
    Calls Tryz.prog 14 #[.slice Aa0 a0.length ca0] w (fun e w' => e = .returned (.tuple #[.string q0,.int .i64 q1]) ∧ St w0 Z (fs) w'):=by
  refine calls_abs ?_; intro R hR
  unfold cond_Text.f at hp0
  refine calls_of_runs (fn:=Tryz.f14) (c:=cd14 []) Tryz.func14 (by kernel_rfl) (al:=[.slice Aa0 a0.length ca0]) rfl (n:=22) rfl ?_
  refine sR 9 [.inRegion (opsOf (cd14 [1,0,0])) [1,2],.code (cd14 [1,0,1]),.code (cd14 [1,1])] ?_
  obtain ⟨t1,hr2,hp3⟩:=bind_some' hp0
  refine rC (cond_Check.ok hr2 hS0 ha0) ?_
  rintro _ w4 ⟨rfl,hS5⟩
  refine ⟨_,rfl,?_⟩
  refine sI 6 [.inRegion (opsOf (cd14 [1,0,1,0])) [],.code (cd14 [1,0,1,1]),.code (cd14 [1,1])] 9 hp3 (fun hp8 => ?_) fun hp10 => ?_
  ·refine sR 8 [.code (cd14 [1,0,1,1,0,1]),.code (cd14 [1,1])] ?_
   refine rR (.tuple #[.string (⟨#[]⟩ : ByteArray),.int .i64 t1]) Tryz.func14 ?_
   cases Option.some.inj hp8
   exact hR _ _ ⟨rfl,hS5⟩
  refine sR 7 [.inRegion (opsOf (cd14 [1,1,0])) [2,3],.code (cd14 [1,1,1])] ?_
  refine r_box (c:=(cd14 [1,1,0])) (i:=2) (d:=(some 13)) (ty:=88) (x:=(.tmp 12)) (v:=.agg #[.slice Aa0 a0.length ca0,.pointer none,.slice none 0 0]) (t:=93) (cs:=[.slice Aa0 a0.length ca0,.pointer none,.slice none 0 0]) hS5 (by kernel_rfl) (by kernel_rfl) (by kernel_rfl) (by kernel_rfl) ?_
  intro b11 w12 hS13
  refine sR 8 [.inRegion (opsOf (cd14 [1,1,1,0])) [4],.code (cd14 [1,1,1,1])] ?_
  have hS15:=hS13.newB
  obtain ⟨t16,hr19,hp20⟩:=bind_some' hp10
  refine rC (cond_writer__node.ok (⟨#[]⟩ : ByteArray) a0 (IntKind.i64.wrap ((a0.length : Int) - 1)) b11 none 0 Aa0 ca0 hS15 ha0 hE hr19) ?_
  rintro _ w21 ⟨Q17,Q18,rfl,hS22⟩
  refine ⟨_,rfl,?_⟩
  refine sR 6 [.inRegion (opsOf (cd14 [1,1,1,1,0])) [3,4,5],.code (cd14 [1,1,1,1,1])] ?_
  obtain ⟨t23,hr24,hp25⟩:=bind_some' hp20
  refine rC (bd_string.ok t16 b11 (.slice Aa0 a0.length ca0) Q17 Q18 hS22 hr24) ?_
  rintro _ w26 ⟨rfl,hS27⟩
  refine ⟨_,rfl,?_⟩
  refine sR 3 [.code (cd14 [1,1,1,1,1])] ?_
  refine rR (.tuple #[.string t23,.int .i64 0]) Tryz.func14 ?_
  cases Option.some.inj hp25
  exact hR _ _ ⟨rfl,hS27⟩

noncomputable def cd32 (p : List Nat) : Code := sub (bodyOf Tryz.f32) p
def weirlaw06_works_1.f (a0 : api_Ref) : Option Int :=
  (if (a0.Thread == 0) = true then some (0) else some (2))
theorem weirlaw06_works_1.ok {a0 : api_Ref} {q0 : Int} (hp0 : weirlaw06_works_1.f a0 = some q0) (hS0 : St w0 Z (fs) w) :
    Calls Tryz.prog 32 #[.agg (enc_api_Ref a0).toArray] w (fun e w' => e = .returned (.int .i64 q0) ∧ St w0 Z (fs) w'):=by
  refine calls_abs ?_; intro R hR
  unfold weirlaw06_works_1.f at hp0
  refine calls_of_runs (fn:=Tryz.f32) (c:=cd32 []) Tryz.func32 (by kernel_rfl) (al:=[.agg (enc_api_Ref a0).toArray]) rfl (n:=5) rfl ?_
  refine sR 2 [.inRegion (opsOf (cd32 [0])) [0,1],.code (cd32 [1])] ?_
  refine r_box (c:=(cd32 [0])) (i:=0) (d:=(some 1)) (ty:=0) (x:=(.tmp 0)) (v:=.agg (enc_api_Ref a0).toArray) (t:=66) (cs:=enc_api_Ref a0) hS0 (by kernel_rfl) (by kernel_rfl) (by kernel_rfl) (by kernel_rfl) ?_
  intro b1 w2 hS3
  refine sR 6 [.inRegion (opsOf (cd32 [1,0,0])) [1,2],.code (cd32 [1,0,1]),.code (cd32 [1,1])] ?_
  refine rL1 3 (.tmp 3) 0 (hS3.blk 0 rfl) ?_
  refine sI 1 [.inRegion (opsOf (cd32 [1,0,0])) [],.code (cd32 [1,0,1]),.code (cd32 [1,1])] 5 hp0 (fun hp7 => ?_) fun hp10 => ?_
  ·refine sR 6 [.code (cd32 [1,0,1,0,1]),.code (cd32 [1,1])] ?_
   have hS8:=hS3.drop
   refine rR (.int .i64 0) Tryz.func32 ?_
   cases Option.some.inj hp7
   exact hR _ _ ⟨rfl,hS8⟩
  refine sR 7 [.code (cd32 [1,1,1])] ?_
  have hS11:=hS3.drop
  refine rR (.int .i64 2) Tryz.func32 ?_
  cases Option.some.inj hp10
  exact hR _ _ ⟨rfl,hS11⟩

noncomputable def cd21 (p : List Nat) : Code := sub (bodyOf Tryz.f21) p
abbrev p21_11:=cd21 [1,1,1,1,1]
abbrev p21_14:=cd21 [1,1,1,0,1,0,0,1,1,0,0,0]
abbrev p21_15:=cd21 [1,1,1,0,1,0,0,1,1,0,0,1]
abbrev p21_21:=cd21 [1,1,1,0,1,0,0,1,1,0,0,1,1,0,1,0]
abbrev p21_24:=cd21 [1,1,1,0,1,0,0,1,1,0,0,1,1,0,1,1,1,0]
abbrev p21_27:=cd21 [1,1,1,0,1,0,0,1,1,0,0,1,1,0,1,1,1,1,1,0]
abbrev p21_30:=cd21 [1,1,1,0,1,0,0,1,1,0,0,1,1,0,1,1,1,1,1,1,1,0]
abbrev p21_33:=cd21 [1,1,1,0,1,0,0,1,1,0,0,1,1,0,1,1,1,1,1,1,1,1,1,0]
abbrev td212:List Item:=[.code (cd21 [1,1,1,1])]
abbrev td213:List Item:=.inBlock 0::td212
abbrev td214:List Item:=.inLoop (cd21 [1,1,1,0,1,0,0])::td213
abbrev td215:List Item:=.code (cd21 [1,1,1,0,1,0,0])::td214
abbrev td216:List Item:=.code (cd21 [1,1,1,0,1,0,0,1,1,1])::td214
abbrev td217:List Item:=.inBlock 1::td216
abbrev td218:List Item:=.inBlock 2::td217
abbrev td219:List Item:=.inRegion (opsOf p21_30) [14,15]::td218
abbrev td220:List Item:=.inRegion (opsOf p21_33) [14,15]::td218
def cond_Holds.l0 (a0 : List api_Node) (t40 : Int) (t41 : List Bool) : Option (List Bool) :=
  (if (decide (t40 < (a0.length : Int))) = true then (if 0 ≤ t40 ∧ t40 < (a0.length : Int) then (if (((gt a0 t40).Op) == 1) = true then (if 0 ≤ t40 ∧ t40 < (t41.length : Int) then (cond_Holds.l0 a0 (IntKind.i64.wrap (t40 + 1)) (setl t41 t40 true)) else none) else (if (((gt a0 t40).Op) == 2) = true then (weirlaw06_works_1.f ((gt a0 t40).Ref) >>= (fun t84 => (if (t84 == ((gt a0 t40).Value)) = true then (if 0 ≤ t40 ∧ t40 < (t41.length : Int) then (cond_Holds.l0 a0 (IntKind.i64.wrap (t40 + 1)) (setl t41 t40 true)) else none) else (if 0 ≤ t40 ∧ t40 < (t41.length : Int) then (cond_Holds.l0 a0 (IntKind.i64.wrap (t40 + 1)) (setl t41 t40 false)) else none)))) else (if (((gt a0 t40).Op) == 3) = true then (if 0 ≤ ((gt a0 t40).A) ∧ ((gt a0 t40).A) < (t41.length : Int) then (if (gt t41 ((gt a0 t40).A)) = true then (if 0 ≤ t40 ∧ t40 < (t41.length : Int) then (cond_Holds.l0 a0 (IntKind.i64.wrap (t40 + 1)) (setl t41 t40 false)) else none) else (if 0 ≤ t40 ∧ t40 < (t41.length : Int) then (cond_Holds.l0 a0 (IntKind.i64.wrap (t40 + 1)) (setl t41 t40 true)) else none)) else none) else (if (((gt a0 t40).Op) == 4) = true then (if 0 ≤ ((gt a0 t40).A) ∧ ((gt a0 t40).A) < (t41.length : Int) then (if (gt t41 ((gt a0 t40).A)) = true then (if 0 ≤ ((gt a0 t40).B) ∧ ((gt a0 t40).B) < (t41.length : Int) then (if (gt t41 ((gt a0 t40).B)) = true then (if 0 ≤ t40 ∧ t40 < (t41.length : Int) then (cond_Holds.l0 a0 (IntKind.i64.wrap (t40 + 1)) (setl t41 t40 true)) else none) else (if 0 ≤ t40 ∧ t40 < (t41.length : Int) then (cond_Holds.l0 a0 (IntKind.i64.wrap (t40 + 1)) (setl t41 t40 false)) else none)) else none) else (if 0 ≤ t40 ∧ t40 < (t41.length : Int) then (cond_Holds.l0 a0 (IntKind.i64.wrap (t40 + 1)) (setl t41 t40 false)) else none)) else none) else (if (((gt a0 t40).Op) == 5) = true then (if 0 ≤ ((gt a0 t40).A) ∧ ((gt a0 t40).A) < (t41.length : Int) then (if (gt t41 ((gt a0 t40).A)) = true then (if 0 ≤ t40 ∧ t40 < (t41.length : Int) then (cond_Holds.l0 a0 (IntKind.i64.wrap (t40 + 1)) (setl t41 t40 true)) else none) else (if 0 ≤ ((gt a0 t40).B) ∧ ((gt a0 t40).B) < (t41.length : Int) then (if (gt t41 ((gt a0 t40).B)) = true then (if 0 ≤ t40 ∧ t40 < (t41.length : Int) then (cond_Holds.l0 a0 (IntKind.i64.wrap (t40 + 1)) (setl t41 t40 true)) else none) else (if 0 ≤ t40 ∧ t40 < (t41.length : Int) then (cond_Holds.l0 a0 (IntKind.i64.wrap (t40 + 1)) (setl t41 t40 false)) else none)) else none)) else none) else (cond_Holds.l0 a0 (IntKind.i64.wrap (t40 + 1)) (id t41))))))) else none) else some (t41))
 partial_fixpoint
def cond_Holds.f (a0 : List api_Node) : Option (Bool × Int) :=
  (cond_Check.f a0 >>= (fun t1 => (if (t1 != 0) = true then some ((false,t1)) else (if 0 ≤ (a0.length : Int) ∧ (a0.length : Int) * 1 ≤ 140737488355328 then (cond_Holds.l0 a0 0 (List.replicate (a0.length : Int).toNat false) >>= (fun t20 => (if 0 ≤ (IntKind.i64.wrap ((a0.length : Int) - 1)) ∧ (IntKind.i64.wrap ((a0.length : Int) - 1)) < (t20.length : Int) then (if (gt t20 (IntKind.i64.wrap ((a0.length : Int) - 1))) = true then some ((true,0)) else some ((false,0))) else none))) else none))))
theorem cond_Holds.ok {a0 : List api_Node} {Aa0 : Option Addr} {ca0 : Nat} {q0 : Bool} {q1 : Int} (hp0 : cond_Holds.f a0 = some (q0,q1)) (hS0 : St w0 Z (fs) w) (ha0 : SlZ (flat enc_api_Node) 6 Z Aa0 ca0 a0) :
    Calls Tryz.prog 21 #[.slice Aa0 a0.length ca0,.func (.func 32) #[] #[]] w (fun e w' => e = .returned (.tuple #[.bool q0,.int .i64 q1]) ∧ St w0 Z (fs) w'):=by
  refine calls_abs ?_; intro R hR
  unfold cond_Holds.f at hp0
  refine calls_of_runs (fn:=Tryz.f21) (c:=cd21 []) Tryz.func21 (by kernel_rfl) (al:=[.slice Aa0 a0.length ca0,.func (.func 32) #[] #[]]) rfl (n:=94) rfl ?_
  refine sR 9 [.inRegion (opsOf (cd21 [1,0,0])) [1,2],.code (cd21 [1,0,1]),.code (cd21 [1,1])] ?_
  obtain ⟨t1,hr2,hp3⟩:=bind_some' hp0
  refine rC (cond_Check.ok hr2 hS0 ha0) ?_
  rintro _ w4 ⟨rfl,hS5⟩
  refine ⟨_,rfl,?_⟩
  refine sI 6 [.inRegion (opsOf (cd21 [1,0,1,0])) [],.code (cd21 [1,0,1,1]),.code (cd21 [1,1])] 13 hp3 (fun hp8 => ?_) fun hp10 => ?_
  ·refine sR 8 [.code (cd21 [1,0,1,1,0,1]),.code (cd21 [1,1])] ?_
   refine rR (.tuple #[.bool false,.int .i64 t1]) Tryz.func21 ?_
   cases Option.some.inj hp8
   exact hR _ _ ⟨rfl,hS5⟩
  refine sR 7 [.inRegion (opsOf (cd21 [1,1,0])) [2,3],.code (cd21 [1,1,1])] ?_
  obtain ⟨g11,hp12⟩:=ite_some hp10
  refine r_make (c:=(cd21 [1,1,0])) (i:=2) (d:=(some 17)) (ty:=102) (enc:=encB) (t:=102) (e:=4) (sz:=1) (bytes:=1) (info:=infoOf Tryz.prog 4) (x:=(.tmp 16)) (y:=(.tmp 16)) (n:=(a0.length : Int)) (kk:=.i64) (kc:=.i64) (z:=.bool false) (x0:=false) hS5 (by kernel_rfl) (by kernel_rfl) (by kernel_rfl) (by kernel_rfl) (by kernel_rfl) (by kernel_rfl) (by kernel_rfl) (by kernel_rfl) (by kernel_rfl) (by kernel_rfl) len_encB (by omega) g11 (by omega) ?_
  intro A13 w14 hS15
  refine rF [none,none,none,none,none,none,none,none,none,none,none,none,none,none,none,none,none,some (.slice A13 (a0.length : Int).toNat (a0.length : Int).toNat),none,none,none,none,none,none,none,none,none,none,none,none,none,none,none,none,none,none,none,none,none,none,none,none,none,none,none,none,none,none,none,none,none,none,none,none,none,none,none,none,none,none,none,none,none,none,none,none,none,none,none,none,none,none,none,none,none,none,none,none,none,none,none,none,none,none,none,none,none,none,none,none,none,none,none,none,none,none] ?_
  refine Runs.refill (m':=[none,none,none,none,none,none,none,none,none,none,none,none,none,none,none,none,none,some (.slice A13 (List.replicate (a0.length : Int).toNat false).length ((a0.length : Int).toNat)),none,none,none,none,none,none,none,none,none,none,none,none,none,none,none,none,none,none,none,none,none,none,none,none,none,none,none,none,none,none,none,none,none,none,none,none,none,none,none,none,none,none,none,none,none,none,none,none,none,none,none,none,none,none,none,none,none,none,none,none,none,none,none,none,none,none,none,none,none,none,none,none,none,none,none,none,none,none]) (by simp only [List.length_replicate]) ?_
  refine sR 11 td215 ?_
  obtain ⟨v17,hv18,hp19⟩:=bind_some' hp12
  have J23 : ∀ (t20 : List Bool) (he25 : t20 = v17) (l24 : List Value) (w21 : World) (hS22 : St w0 Z (xrow A13 ((a0.length : Int).toNat) 4 1 (t20.flatMap encB)::fs) w21),Runs Tryz.prog (fx 21) td212 (fill (mk 96 [(0,.slice Aa0 a0.length ca0),(7,.slice A13 t20.length ((a0.length : Int).toNat))]) l24) w21 R:=by
   intro t20 he25 l24 w21 hS22
   subst he25
   try dsimp only at hp19
   refine sR 6 [iR (cd21 [1,1,1,1,0]) 4 4,.code p21_11] ?_
   obtain ⟨g26,hp27⟩:=ite_some hp19
   obtain ⟨b28,p29,hA30,-⟩:=(hS22.row 0 rfl).at_ len_encB (by omega) g26.1 g26.2
   refine r_indexAddr (c:=(cd21 [1,1,1,1,0])) (i:=4) (d:=(some 94)) (ty:=0) (t:=102) (e:=4) (n:=t20.length) (cp:=(a0.length : Int).toNat) (sz:=1) (kk:=.i64) (x:=(.tmp 90)) (y:=(.tmp 93)) (b:=b28) (o':=p29) (j:=(IntKind.i64.wrap ((a0.length : Int) - 1))) (by kernel_rfl) (by kernel_rfl) (slv (by kernel_rfl) hA30) (by kernel_rfl) (by kernel_rfl) (by kernel_rfl) g26.1 g26.2 ?_
   refine rL1 4 (.tmp 94) 0 ((hS22.row 0 rfl).at2 hA30 len_encB (by omega) g26.1 g26.2) ?_
   refine r_split (gt t20 (IntKind.i64.wrap ((a0.length : Int) - 1))) (fun h32 => ?_) (fun h33 => ?_)
   ·have hp34:=ite_t hp27 h32
    refine sR 3 [.code p21_11] ?_
    have hS35:=hS22.drop
    refine rR (.tuple #[.bool true,.int .i64 0]) Tryz.func21 ?_
    cases Option.some.inj hp34
    exact hR _ _ ⟨rfl,hS35⟩
   have hp37:=ite_f hp27 h33
   refine sR 3 [.code p21_11] ?_
   have hS38:=hS22.drop
   refine rR (.tuple #[.bool false,.int .i64 0]) Tryz.func21 ?_
   cases Option.some.inj hp37
   exact hR _ _ ⟨rfl,hS38⟩
  have L50 : ∀ (t40 : Int) (t41 : List Bool) (e45 : (List Bool)),cond_Holds.l0 a0 t40 t41 = some e45 → e45 = v17 → ∀ (l44 : List Value) (w42 : World) (hS43 : St w0 Z (xrow A13 ((a0.length : Int).toNat) 4 1 (t41.flatMap encB)::fs) w42),Runs Tryz.prog (fx 21) td215 (fill (mk 96 [(0,.slice Aa0 a0.length ca0),(1,.func (.func 32) #[] #[]),(7,.slice A13 t41.length ((a0.length : Int).toNat)),(18,.slice Aa0 a0.length ca0),(19,.int .i64 (a0.length : Int)),(20,.int .i64 t40)]) l44) w42 R:=by
   refine cond_Holds.l0.partial_correctness a0 (fun t40 t41 e45 => e45 = v17 → ∀ (l44 : List Value) (w42 : World) (hS43 : St w0 Z (xrow A13 ((a0.length : Int).toNat) 4 1 (t41.flatMap encB)::fs) w42),Runs Tryz.prog (fx 21) td215 (fill (mk 96 [(0,.slice Aa0 a0.length ca0),(1,.func (.func 32) #[] #[]),(7,.slice A13 t41.length ((a0.length : Int).toNat)),(18,.slice Aa0 a0.length ca0),(19,.int .i64 (a0.length : Int)),(20,.int .i64 t40)]) l44) w42 R) ?_
   intro rec49 ih48 t40 t41 e45 hb47 he46 l44 w42 hS43
   refine sI 3 (.inRegion (opsOf (cd21 [1,1,1,0,1,0,0,0])) []::.code (cd21 [1,1,1,0,1,0,0,1])::td214) 21 hb47 (fun hp53 => ?_) fun hp271 => ?_
   ·refine sR 9 (iR p21_14 1 5::.code p21_15::td217) ?_
    obtain ⟨g54,hp55⟩:=ite_some hp53
    obtain ⟨b56,p57,hA58,hc59⟩:=ha0.atF g54.1 g54.2
    refine r_indexAddr (c:=p21_14) (i:=1) (d:=(some 23)) (ty:=0) (t:=23) (e:=68) (n:=a0.length) (cp:=ca0) (sz:=6) (kk:=.i64) (x:=(.tmp 18)) (y:=(.tmp 20)) (b:=b56) (o':=p57) (j:=t40) (by kernel_rfl) (by kernel_rfl) (slv (by kernel_rfl) hA58) (by kernel_rfl) (by kernel_rfl) (by kernel_rfl) g54.1 g54.2 ?_
    refine rLa 68 (.tmp 23) (hc59.cells hS43) ?_
    refine rA 68 (.agg (enc_api_Node (⟨0,0,0,⟨0,(⟨#[]⟩ : ByteArray)⟩,0⟩ : api_Node)).toArray) (enc_api_Node (⟨0,0,0,⟨0,(⟨#[]⟩ : ByteArray)⟩,0⟩ : api_Node)) hS43 ?_
    intro b60 w61 hS62
    refine sR 1 (.inRegion (opsOf p21_14) [5]::.code p21_15::td217) ?_
    refine rSA 68 (.tmp 9) (.tmp 24) (enc_api_Node (gt a0 t40)) hS62 (one_api_Node _) ?_
    intro w64 hS65
    refine sR 4 (.inRegion (opsOf (cd21 [1,1,1,0,1,0,0,1,1,0,0,1,0])) [1]::.code (cd21 [1,1,1,0,1,0,0,1,1,0,0,1,1])::td217) ?_
    refine rL1 3 (.tmp 25) 0 (hS65.blk 0 rfl) ?_
    refine sI 5 (.inRegion (opsOf (cd21 [1,1,1,0,1,0,0,1,1,0,0,1,1,0,0])) [1]::.code (cd21 [1,1,1,0,1,0,0,1,1,0,0,1,1,0,1])::td218) 28 hp55 (fun hp68 => ?_) fun hp80 => ?_
    ·refine sR 6 (.inRegion (opsOf p21_21) [2,3]::td218) ?_
     obtain ⟨g69,hp70⟩:=ite_some hp68
     obtain ⟨b71,p72,hA73,-⟩:=(hS65.row 1 rfl).at_ len_encB (by omega) g69.1 g69.2
     refine r_indexAddr (c:=p21_21) (i:=2) (d:=(some 31)) (ty:=0) (t:=102) (e:=4) (n:=t41.length) (cp:=(a0.length : Int).toNat) (sz:=1) (kk:=.i64) (x:=(.tmp 29)) (y:=(.tmp 30)) (b:=b71) (o':=p72) (j:=t40) (by kernel_rfl) (by kernel_rfl) (slv (by kernel_rfl) hA73) (by kernel_rfl) (by kernel_rfl) (by kernel_rfl) g69.1 g69.2 ?_
     have hS75:=hS65.pick1
     refine r_storeEl (c:=p21_21) (i:=3) (d:=none) (ty:=0) (enc:=encB) (e:=4) (t:=4) (sz:=1) (cp:=(a0.length : Int).toNat) (A:=A13) (xs:=t41) (x:=(.tmp 31)) (y:=(.const (.bool true))) (el:=gt t41 t40) (el':=true) (j:=t40) (off:=0) (b:=b71) (p:=p72) (v:=.bool true) (vs:=[.bool true]) (ad:=⟨b71,p72 + t40.toNat * 1,none⟩) hS75 (by kernel_rfl) (by kernel_rfl) (by kernel_rfl) (by simp) (by kernel_rfl) hA73 g69 rfl len_encB (by kernel_rfl) (by kernel_rfl) (by kernel_rfl) (Nat.le_of_ble_eq_true (by kernel_rfl)) (Nat.le_of_ble_eq_true (by kernel_rfl)) (by kernel_rfl) ?_
     intro w76 hS77
     refine rF [none,none,none,none,none,none,none,some (.slice A13 t41.length ((a0.length : Int).toNat)),none,none,none,none,none,none,none,none,none,none,none,none,none,none,none,none,none,none,none,none,none,some (.slice A13 t41.length ((a0.length : Int).toNat)),none,none,none,none,none,none,none,none,none,none,none,none,none,none,none,none,none,none,none,none,none,none,none,none,none,none,none,none,none,none,none,none,none,none,none,none,none,none,none,none,none,none,none,none,none,none,none,none,none,none,none,none,none,none,none,none,none,none,none,none,none,none,none,none,none,none] ?_
     refine Runs.refill (m':=[none,none,none,none,none,none,none,some (.slice A13 (setl t41 t40 true).length ((a0.length : Int).toNat)),none,none,none,none,none,none,none,none,none,none,none,none,none,none,none,none,none,none,none,none,none,some (.slice A13 (setl t41 t40 true).length ((a0.length : Int).toNat)),none,none,none,none,none,none,none,none,none,none,none,none,none,none,none,none,none,none,none,none,none,none,none,none,none,none,none,none,none,none,none,none,none,none,none,none,none,none,none,none,none,none,none,none,none,none,none,none,none,none,none,none,none,none,none,none,none,none,none,none,none,none,none,none,none,none]) (by simp only [setl_len]) ?_
     refine sR 7 td214 ?_
     have hS78:=hS77.pick1
     have hS79:=hS78.drop
     refine sR 1 td215 ?_
     exact rF _ (ih48 (IntKind.i64.wrap (t40 + 1)) (setl t41 t40 true) _ hp70 he46 _ _ hS79)
    refine sI 6 (.inRegion (opsOf (cd21 [1,1,1,0,1,0,0,1,1,0,0,1,1,0,1,1,0])) [1]::.code (cd21 [1,1,1,0,1,0,0,1,1,0,0,1,1,0,1,1,1])::td218) 33 hp80 (fun hp83 => ?_) fun hp119 => ?_
    ·refine sR 3 (.code p21_24::td218) ?_
     refine r_drawn3 (C:=St w0 Z (xblk b60 68 (enc_api_Node (gt a0 t40))::xrow A13 ((a0.length : Int).toNat) 4 1 (t41.flatMap encB)::fs)) (c:=p21_24) (id:=12) (by kernel_rfl) (by kernel_rfl) 10 (Nat.le_of_ble_eq_true (by kernel_rfl)) (by kernel_rfl) (by kernel_rfl) (by kernel_rfl) (is:=[0,1,2,3,4,5,6,7,8,9]) (rest:=[10]) (by kernel_rfl) (by kernel_rfl) hS65.drew ?_
     refine qR 4 (rg 4 6) ?_
     refine qLa 66 (.tmp 37) (fun w hC => (sub_api_Node_Ref (hC.blk 0 rfl))) ?_
     obtain ⟨t84,hr85,hp86⟩:=bind_some' hp83
     refine q_call1 (c:=(hd p21_24 10)) (i:=5) (d:=(some 39)) (v:=.int .i64 t84) (g:=32) (args:=#[.agg (enc_api_Ref ((gt a0 t40).Ref)).toArray]) (by kernel_rfl) (by kernel_rfl) (by kernel_rfl) (by kernel_rfl) (fun w hC => by
      refine (weirlaw06_works_1.ok hr85 hC).mono ?_
      rintro e w2 ⟨rfl,h2⟩
      have hS87:=h2.pick1
      have hS88:=hS87.pick1
      exact ⟨rfl,hS88⟩) ?_
     refine qR 1 [7,8,9] ?_
     refine qL1 2 (.tmp 40) 5 (fun w hC => (hC.blk 0 rfl)) ?_
     refine qI 1 [9] 42 hp86 (fun hp91 => ?_) fun hp105 => ?_
     ·obtain ⟨g92,hp93⟩:=ite_some hp91
      obtain ⟨b94,p95,hA96,-⟩:=(hS65.row 1 rfl).at_ len_encB (by omega) g92.1 g92.2
      refine q_indexAddr (c:=(hd p21_24 10)) (i:=9) (d:=(some 43)) (ty:=0) (t:=102) (e:=4) (n:=t41.length) (cp:=(a0.length : Int).toNat) (sz:=1) (kk:=.i64) (x:=(.tmp 34)) (y:=(.tmp 35)) (b:=b94) (o':=p95) (j:=t40) (by kernel_rfl) (by kernel_rfl) (slv (by kernel_rfl) hA96) (by kernel_rfl) (by kernel_rfl) (by kernel_rfl) g92.1 g92.2 ?_
      refine Qs.nil ?_
      intro w98 hS99
      have hS100:=hS99.pick1
      refine r_storeEl (c:=p21_24) (i:=10) (d:=none) (ty:=0) (enc:=encB) (e:=4) (t:=4) (sz:=1) (cp:=(a0.length : Int).toNat) (A:=A13) (xs:=t41) (x:=(.tmp 43)) (y:=(.tmp 42)) (el:=gt t41 t40) (el':=true) (j:=t40) (off:=0) (b:=b94) (p:=p95) (v:=.bool true) (vs:=[.bool true]) (ad:=⟨b94,p95 + t40.toNat * 1,none⟩) hS100 (by kernel_rfl) (by kernel_rfl) (by kernel_rfl) (by simp) (by kernel_rfl) hA96 g92 rfl len_encB (by kernel_rfl) (by kernel_rfl) (by kernel_rfl) (Nat.le_of_ble_eq_true (by kernel_rfl)) (Nat.le_of_ble_eq_true (by kernel_rfl)) (by kernel_rfl) ?_
      intro w101 hS102
      refine rF [none,none,none,none,none,none,none,some (.slice A13 t41.length ((a0.length : Int).toNat)),none,none,none,none,none,none,none,none,none,none,none,none,none,none,none,none,none,none,none,none,none,none,none,none,none,none,some (.slice A13 t41.length ((a0.length : Int).toNat)),none,none,none,none,none,none,none,none,none,none,none,none,none,none,none,none,none,none,none,none,none,none,none,none,none,none,none,none,none,none,none,none,none,none,none,none,none,none,none,none,none,none,none,none,none,none,none,none,none,none,none,none,none,none,none,none,none,none,none,none,none] ?_
      refine Runs.refill (m':=[none,none,none,none,none,none,none,some (.slice A13 (setl t41 t40 true).length ((a0.length : Int).toNat)),none,none,none,none,none,none,none,none,none,none,none,none,none,none,none,none,none,none,none,none,none,none,none,none,none,none,some (.slice A13 (setl t41 t40 true).length ((a0.length : Int).toNat)),none,none,none,none,none,none,none,none,none,none,none,none,none,none,none,none,none,none,none,none,none,none,none,none,none,none,none,none,none,none,none,none,none,none,none,none,none,none,none,none,none,none,none,none,none,none,none,none,none,none,none,none,none,none,none,none,none,none,none,none,none]) (by simp only [setl_len]) ?_
      refine sR 7 td214 ?_
      have hS103:=hS102.pick1
      have hS104:=hS103.drop
      refine sR 1 td215 ?_
      exact rF _ (ih48 (IntKind.i64.wrap (t40 + 1)) (setl t41 t40 true) _ hp93 he46 _ _ hS104)
     obtain ⟨g106,hp107⟩:=ite_some hp105
     obtain ⟨b108,p109,hA110,-⟩:=(hS65.row 1 rfl).at_ len_encB (by omega) g106.1 g106.2
     refine q_indexAddr (c:=(hd p21_24 10)) (i:=9) (d:=(some 43)) (ty:=0) (t:=102) (e:=4) (n:=t41.length) (cp:=(a0.length : Int).toNat) (sz:=1) (kk:=.i64) (x:=(.tmp 34)) (y:=(.tmp 35)) (b:=b108) (o':=p109) (j:=t40) (by kernel_rfl) (by kernel_rfl) (slv (by kernel_rfl) hA110) (by kernel_rfl) (by kernel_rfl) (by kernel_rfl) g106.1 g106.2 ?_
     refine Qs.nil ?_
     intro w112 hS113
     have hS114:=hS113.pick1
     refine r_storeEl (c:=p21_24) (i:=10) (d:=none) (ty:=0) (enc:=encB) (e:=4) (t:=4) (sz:=1) (cp:=(a0.length : Int).toNat) (A:=A13) (xs:=t41) (x:=(.tmp 43)) (y:=(.tmp 42)) (el:=gt t41 t40) (el':=false) (j:=t40) (off:=0) (b:=b108) (p:=p109) (v:=.bool false) (vs:=[.bool false]) (ad:=⟨b108,p109 + t40.toNat * 1,none⟩) hS114 (by kernel_rfl) (by kernel_rfl) (by kernel_rfl) (by simp) (by kernel_rfl) hA110 g106 rfl len_encB (by kernel_rfl) (by kernel_rfl) (by kernel_rfl) (Nat.le_of_ble_eq_true (by kernel_rfl)) (Nat.le_of_ble_eq_true (by kernel_rfl)) (by kernel_rfl) ?_
     intro w115 hS116
     refine rF [none,none,none,none,none,none,none,some (.slice A13 t41.length ((a0.length : Int).toNat)),none,none,none,none,none,none,none,none,none,none,none,none,none,none,none,none,none,none,none,none,none,none,none,none,none,none,some (.slice A13 t41.length ((a0.length : Int).toNat)),none,none,none,none,none,none,none,none,none,none,none,none,none,none,none,none,none,none,none,none,none,none,none,none,none,none,none,none,none,none,none,none,none,none,none,none,none,none,none,none,none,none,none,none,none,none,none,none,none,none,none,none,none,none,none,none,none,none,none,none,none] ?_
     refine Runs.refill (m':=[none,none,none,none,none,none,none,some (.slice A13 (setl t41 t40 false).length ((a0.length : Int).toNat)),none,none,none,none,none,none,none,none,none,none,none,none,none,none,none,none,none,none,none,none,none,none,none,none,none,none,some (.slice A13 (setl t41 t40 false).length ((a0.length : Int).toNat)),none,none,none,none,none,none,none,none,none,none,none,none,none,none,none,none,none,none,none,none,none,none,none,none,none,none,none,none,none,none,none,none,none,none,none,none,none,none,none,none,none,none,none,none,none,none,none,none,none,none,none,none,none,none,none,none,none,none,none,none,none]) (by simp only [setl_len]) ?_
     refine sR 7 td214 ?_
     have hS117:=hS116.pick1
     have hS118:=hS117.drop
     refine sR 1 td215 ?_
     exact rF _ (ih48 (IntKind.i64.wrap (t40 + 1)) (setl t41 t40 false) _ hp107 he46 _ _ hS118)
    refine sI 6 (.inRegion (opsOf (cd21 [1,1,1,0,1,0,0,1,1,0,0,1,1,0,1,1,1,1,0])) [1]::.code (cd21 [1,1,1,0,1,0,0,1,1,0,0,1,1,0,1,1,1,1,1])::td218) 45 hp119 (fun hp122 => ?_) fun hp155 => ?_
    ·refine sR 8 (iR p21_27 4 6::td218) ?_
     refine rL1 3 (.tmp 49) 1 (hS65.blk 0 rfl) ?_
     obtain ⟨g123,hp124⟩:=ite_some hp122
     obtain ⟨b125,p126,hA127,-⟩:=(hS65.row 1 rfl).at_ len_encB (by omega) g123.1 g123.2
     refine r_indexAddr (c:=p21_27) (i:=5) (d:=(some 51)) (ty:=0) (t:=102) (e:=4) (n:=t41.length) (cp:=(a0.length : Int).toNat) (sz:=1) (kk:=.i64) (x:=(.tmp 48)) (y:=(.tmp 50)) (b:=b125) (o':=p126) (j:=(gt a0 t40).A) (by kernel_rfl) (by kernel_rfl) (slv (by kernel_rfl) hA127) (by kernel_rfl) (by kernel_rfl) (by kernel_rfl) g123.1 g123.2 ?_
     refine rL1 4 (.tmp 51) 0 ((hS65.row 1 rfl).at2 hA127 len_encB (by omega) g123.1 g123.2) ?_
     refine r_split (gt t41 ((gt a0 t40).A)) (fun h129 => ?_) (fun h130 => ?_)
     ·have hp131:=ite_t hp124 h129
      refine sR 1 (.inRegion (opsOf p21_27) [8,9]::td218) ?_
      obtain ⟨g132,hp133⟩:=ite_some hp131
      obtain ⟨b134,p135,hA136,-⟩:=(hS65.row 1 rfl).at_ len_encB (by omega) g132.1 g132.2
      refine r_indexAddr (c:=p21_27) (i:=8) (d:=(some 54)) (ty:=0) (t:=102) (e:=4) (n:=t41.length) (cp:=(a0.length : Int).toNat) (sz:=1) (kk:=.i64) (x:=(.tmp 46)) (y:=(.tmp 47)) (b:=b134) (o':=p135) (j:=t40) (by kernel_rfl) (by kernel_rfl) (slv (by kernel_rfl) hA136) (by kernel_rfl) (by kernel_rfl) (by kernel_rfl) g132.1 g132.2 ?_
      have hS138:=hS65.pick1
      refine r_storeEl (c:=p21_27) (i:=9) (d:=none) (ty:=0) (enc:=encB) (e:=4) (t:=4) (sz:=1) (cp:=(a0.length : Int).toNat) (A:=A13) (xs:=t41) (x:=(.tmp 54)) (y:=(.tmp 53)) (el:=gt t41 t40) (el':=false) (j:=t40) (off:=0) (b:=b134) (p:=p135) (v:=.bool false) (vs:=[.bool false]) (ad:=⟨b134,p135 + t40.toNat * 1,none⟩) hS138 (by kernel_rfl) (by kernel_rfl) (by kernel_rfl) (by simp) (by kernel_rfl) hA136 g132 rfl len_encB (by kernel_rfl) (by kernel_rfl) (by kernel_rfl) (Nat.le_of_ble_eq_true (by kernel_rfl)) (Nat.le_of_ble_eq_true (by kernel_rfl)) (by kernel_rfl) ?_
      intro w139 hS140
      refine rF [none,none,none,none,none,none,none,some (.slice A13 t41.length ((a0.length : Int).toNat)),none,none,none,none,none,none,none,none,none,none,none,none,none,none,none,none,none,none,none,none,none,none,none,none,none,none,none,none,none,none,none,none,none,none,none,none,none,none,some (.slice A13 t41.length ((a0.length : Int).toNat)),none,some (.slice A13 t41.length ((a0.length : Int).toNat)),none,none,none,none,none,none,none,none,none,none,none,none,none,none,none,none,none,none,none,none,none,none,none,none,none,none,none,none,none,none,none,none,none,none,none,none,none,none,none,none,none,none,none,none,none,none,none] ?_
      refine Runs.refill (m':=[none,none,none,none,none,none,none,some (.slice A13 (setl t41 t40 false).length ((a0.length : Int).toNat)),none,none,none,none,none,none,none,none,none,none,none,none,none,none,none,none,none,none,none,none,none,none,none,none,none,none,none,none,none,none,none,none,none,none,none,none,none,none,some (.slice A13 (setl t41 t40 false).length ((a0.length : Int).toNat)),none,some (.slice A13 (setl t41 t40 false).length ((a0.length : Int).toNat)),none,none,none,none,none,none,none,none,none,none,none,none,none,none,none,none,none,none,none,none,none,none,none,none,none,none,none,none,none,none,none,none,none,none,none,none,none,none,none,none,none,none,none,none,none,none,none]) (by simp only [setl_len]) ?_
      refine sR 7 td214 ?_
      have hS141:=hS140.pick1
      have hS142:=hS141.drop
      refine sR 1 td215 ?_
      exact rF _ (ih48 (IntKind.i64.wrap (t40 + 1)) (setl t41 t40 false) _ hp133 he46 _ _ hS142)
     have hp143:=ite_f hp124 h130
     refine sR 1 (.inRegion (opsOf p21_27) [8,9]::td218) ?_
     obtain ⟨g144,hp145⟩:=ite_some hp143
     obtain ⟨b146,p147,hA148,-⟩:=(hS65.row 1 rfl).at_ len_encB (by omega) g144.1 g144.2
     refine r_indexAddr (c:=p21_27) (i:=8) (d:=(some 54)) (ty:=0) (t:=102) (e:=4) (n:=t41.length) (cp:=(a0.length : Int).toNat) (sz:=1) (kk:=.i64) (x:=(.tmp 46)) (y:=(.tmp 47)) (b:=b146) (o':=p147) (j:=t40) (by kernel_rfl) (by kernel_rfl) (slv (by kernel_rfl) hA148) (by kernel_rfl) (by kernel_rfl) (by kernel_rfl) g144.1 g144.2 ?_
     have hS150:=hS65.pick1
     refine r_storeEl (c:=p21_27) (i:=9) (d:=none) (ty:=0) (enc:=encB) (e:=4) (t:=4) (sz:=1) (cp:=(a0.length : Int).toNat) (A:=A13) (xs:=t41) (x:=(.tmp 54)) (y:=(.tmp 53)) (el:=gt t41 t40) (el':=true) (j:=t40) (off:=0) (b:=b146) (p:=p147) (v:=.bool true) (vs:=[.bool true]) (ad:=⟨b146,p147 + t40.toNat * 1,none⟩) hS150 (by kernel_rfl) (by kernel_rfl) (by kernel_rfl) (by simp) (by kernel_rfl) hA148 g144 rfl len_encB (by kernel_rfl) (by kernel_rfl) (by kernel_rfl) (Nat.le_of_ble_eq_true (by kernel_rfl)) (Nat.le_of_ble_eq_true (by kernel_rfl)) (by kernel_rfl) ?_
     intro w151 hS152
     refine rF [none,none,none,none,none,none,none,some (.slice A13 t41.length ((a0.length : Int).toNat)),none,none,none,none,none,none,none,none,none,none,none,none,none,none,none,none,none,none,none,none,none,none,none,none,none,none,none,none,none,none,none,none,none,none,none,none,none,none,some (.slice A13 t41.length ((a0.length : Int).toNat)),none,some (.slice A13 t41.length ((a0.length : Int).toNat)),none,none,none,none,none,none,none,none,none,none,none,none,none,none,none,none,none,none,none,none,none,none,none,none,none,none,none,none,none,none,none,none,none,none,none,none,none,none,none,none,none,none,none,none,none,none,none] ?_
     refine Runs.refill (m':=[none,none,none,none,none,none,none,some (.slice A13 (setl t41 t40 true).length ((a0.length : Int).toNat)),none,none,none,none,none,none,none,none,none,none,none,none,none,none,none,none,none,none,none,none,none,none,none,none,none,none,none,none,none,none,none,none,none,none,none,none,none,none,some (.slice A13 (setl t41 t40 true).length ((a0.length : Int).toNat)),none,some (.slice A13 (setl t41 t40 true).length ((a0.length : Int).toNat)),none,none,none,none,none,none,none,none,none,none,none,none,none,none,none,none,none,none,none,none,none,none,none,none,none,none,none,none,none,none,none,none,none,none,none,none,none,none,none,none,none,none,none,none,none,none,none]) (by simp only [setl_len]) ?_
     refine sR 7 td214 ?_
     have hS153:=hS152.pick1
     have hS154:=hS153.drop
     refine sR 1 td215 ?_
     exact rF _ (ih48 (IntKind.i64.wrap (t40 + 1)) (setl t41 t40 true) _ hp145 he46 _ _ hS154)
    refine sI 6 (.inRegion (opsOf (cd21 [1,1,1,0,1,0,0,1,1,0,0,1,1,0,1,1,1,1,1,1,0])) [1]::.code (cd21 [1,1,1,0,1,0,0,1,1,0,0,1,1,0,1,1,1,1,1,1,1])::td218) 56 hp155 (fun hp158 => ?_) fun hp212 => ?_
    ·refine sR 8 (iR p21_30 4 12::td218) ?_
     refine rL1 3 (.tmp 60) 1 (hS65.blk 0 rfl) ?_
     obtain ⟨g159,hp160⟩:=ite_some hp158
     obtain ⟨b161,p162,hA163,-⟩:=(hS65.row 1 rfl).at_ len_encB (by omega) g159.1 g159.2
     refine r_indexAddr (c:=p21_30) (i:=5) (d:=(some 62)) (ty:=0) (t:=102) (e:=4) (n:=t41.length) (cp:=(a0.length : Int).toNat) (sz:=1) (kk:=.i64) (x:=(.tmp 59)) (y:=(.tmp 61)) (b:=b161) (o':=p162) (j:=(gt a0 t40).A) (by kernel_rfl) (by kernel_rfl) (slv (by kernel_rfl) hA163) (by kernel_rfl) (by kernel_rfl) (by kernel_rfl) g159.1 g159.2 ?_
     refine rL1 4 (.tmp 62) 0 ((hS65.row 1 rfl).at2 hA163 len_encB (by omega) g159.1 g159.2) ?_
     refine r_split (gt t41 ((gt a0 t40).A)) (fun h165 => ?_) (fun h166 => ?_)
     ·have hp167:=ite_t hp160 h165
      refine sR 3 (iR p21_30 10 6::td218) ?_
      refine rL1 3 (.tmp 66) 2 (hS65.blk 0 rfl) ?_
      obtain ⟨g168,hp169⟩:=ite_some hp167
      obtain ⟨b170,p171,hA172,-⟩:=(hS65.row 1 rfl).at_ len_encB (by omega) g168.1 g168.2
      refine r_indexAddr (c:=p21_30) (i:=11) (d:=(some 68)) (ty:=0) (t:=102) (e:=4) (n:=t41.length) (cp:=(a0.length : Int).toNat) (sz:=1) (kk:=.i64) (x:=(.tmp 65)) (y:=(.tmp 67)) (b:=b170) (o':=p171) (j:=(gt a0 t40).B) (by kernel_rfl) (by kernel_rfl) (slv (by kernel_rfl) hA172) (by kernel_rfl) (by kernel_rfl) (by kernel_rfl) g168.1 g168.2 ?_
      refine rL1 4 (.tmp 68) 0 ((hS65.row 1 rfl).at2 hA172 len_encB (by omega) g168.1 g168.2) ?_
      refine r_split (gt t41 ((gt a0 t40).B)) (fun h174 => ?_) (fun h175 => ?_)
      ·have hp176:=ite_t hp169 h174
       refine sR 1 td219 ?_
       obtain ⟨g177,hp178⟩:=ite_some hp176
       obtain ⟨b179,p180,hA181,-⟩:=(hS65.row 1 rfl).at_ len_encB (by omega) g177.1 g177.2
       refine r_indexAddr (c:=p21_30) (i:=14) (d:=(some 71)) (ty:=0) (t:=102) (e:=4) (n:=t41.length) (cp:=(a0.length : Int).toNat) (sz:=1) (kk:=.i64) (x:=(.tmp 57)) (y:=(.tmp 58)) (b:=b179) (o':=p180) (j:=t40) (by kernel_rfl) (by kernel_rfl) (slv (by kernel_rfl) hA181) (by kernel_rfl) (by kernel_rfl) (by kernel_rfl) g177.1 g177.2 ?_
       have hS183:=hS65.pick1
       refine r_storeEl (c:=p21_30) (i:=15) (d:=none) (ty:=0) (enc:=encB) (e:=4) (t:=4) (sz:=1) (cp:=(a0.length : Int).toNat) (A:=A13) (xs:=t41) (x:=(.tmp 71)) (y:=(.tmp 70)) (el:=gt t41 t40) (el':=true) (j:=t40) (off:=0) (b:=b179) (p:=p180) (v:=.bool true) (vs:=[.bool true]) (ad:=⟨b179,p180 + t40.toNat * 1,none⟩) hS183 (by kernel_rfl) (by kernel_rfl) (by kernel_rfl) (by simp) (by kernel_rfl) hA181 g177 rfl len_encB (by kernel_rfl) (by kernel_rfl) (by kernel_rfl) (Nat.le_of_ble_eq_true (by kernel_rfl)) (Nat.le_of_ble_eq_true (by kernel_rfl)) (by kernel_rfl) ?_
       intro w184 hS185
       refine rF [none,none,none,none,none,none,none,some (.slice A13 t41.length ((a0.length : Int).toNat)),none,none,none,none,none,none,none,none,none,none,none,none,none,none,none,none,none,none,none,none,none,none,none,none,none,none,none,none,none,none,none,none,none,none,none,none,none,none,none,none,none,none,none,none,none,none,none,none,none,some (.slice A13 t41.length ((a0.length : Int).toNat)),none,some (.slice A13 t41.length ((a0.length : Int).toNat)),none,none,none,none,none,some (.slice A13 t41.length ((a0.length : Int).toNat)),none,none,none,none,none,none,none,none,none,none,none,none,none,none,none,none,none,none,none,none,none,none,none,none,none,none,none,none,none,none] ?_
       refine Runs.refill (m':=[none,none,none,none,none,none,none,some (.slice A13 (setl t41 t40 true).length ((a0.length : Int).toNat)),none,none,none,none,none,none,none,none,none,none,none,none,none,none,none,none,none,none,none,none,none,none,none,none,none,none,none,none,none,none,none,none,none,none,none,none,none,none,none,none,none,none,none,none,none,none,none,none,none,some (.slice A13 (setl t41 t40 true).length ((a0.length : Int).toNat)),none,some (.slice A13 (setl t41 t40 true).length ((a0.length : Int).toNat)),none,none,none,none,none,some (.slice A13 (setl t41 t40 true).length ((a0.length : Int).toNat)),none,none,none,none,none,none,none,none,none,none,none,none,none,none,none,none,none,none,none,none,none,none,none,none,none,none,none,none,none,none]) (by simp only [setl_len]) ?_
       refine sR 7 td214 ?_
       have hS186:=hS185.pick1
       have hS187:=hS186.drop
       refine sR 1 td215 ?_
       exact rF _ (ih48 (IntKind.i64.wrap (t40 + 1)) (setl t41 t40 true) _ hp178 he46 _ _ hS187)
      have hp188:=ite_f hp169 h175
      refine sR 1 td219 ?_
      obtain ⟨g189,hp190⟩:=ite_some hp188
      obtain ⟨b191,p192,hA193,-⟩:=(hS65.row 1 rfl).at_ len_encB (by omega) g189.1 g189.2
      refine r_indexAddr (c:=p21_30) (i:=14) (d:=(some 71)) (ty:=0) (t:=102) (e:=4) (n:=t41.length) (cp:=(a0.length : Int).toNat) (sz:=1) (kk:=.i64) (x:=(.tmp 57)) (y:=(.tmp 58)) (b:=b191) (o':=p192) (j:=t40) (by kernel_rfl) (by kernel_rfl) (slv (by kernel_rfl) hA193) (by kernel_rfl) (by kernel_rfl) (by kernel_rfl) g189.1 g189.2 ?_
      have hS195:=hS65.pick1
      refine r_storeEl (c:=p21_30) (i:=15) (d:=none) (ty:=0) (enc:=encB) (e:=4) (t:=4) (sz:=1) (cp:=(a0.length : Int).toNat) (A:=A13) (xs:=t41) (x:=(.tmp 71)) (y:=(.tmp 70)) (el:=gt t41 t40) (el':=false) (j:=t40) (off:=0) (b:=b191) (p:=p192) (v:=.bool false) (vs:=[.bool false]) (ad:=⟨b191,p192 + t40.toNat * 1,none⟩) hS195 (by kernel_rfl) (by kernel_rfl) (by kernel_rfl) (by simp) (by kernel_rfl) hA193 g189 rfl len_encB (by kernel_rfl) (by kernel_rfl) (by kernel_rfl) (Nat.le_of_ble_eq_true (by kernel_rfl)) (Nat.le_of_ble_eq_true (by kernel_rfl)) (by kernel_rfl) ?_
      intro w196 hS197
      refine rF [none,none,none,none,none,none,none,some (.slice A13 t41.length ((a0.length : Int).toNat)),none,none,none,none,none,none,none,none,none,none,none,none,none,none,none,none,none,none,none,none,none,none,none,none,none,none,none,none,none,none,none,none,none,none,none,none,none,none,none,none,none,none,none,none,none,none,none,none,none,some (.slice A13 t41.length ((a0.length : Int).toNat)),none,some (.slice A13 t41.length ((a0.length : Int).toNat)),none,none,none,none,none,some (.slice A13 t41.length ((a0.length : Int).toNat)),none,none,none,none,none,none,none,none,none,none,none,none,none,none,none,none,none,none,none,none,none,none,none,none,none,none,none,none,none,none] ?_
      refine Runs.refill (m':=[none,none,none,none,none,none,none,some (.slice A13 (setl t41 t40 false).length ((a0.length : Int).toNat)),none,none,none,none,none,none,none,none,none,none,none,none,none,none,none,none,none,none,none,none,none,none,none,none,none,none,none,none,none,none,none,none,none,none,none,none,none,none,none,none,none,none,none,none,none,none,none,none,none,some (.slice A13 (setl t41 t40 false).length ((a0.length : Int).toNat)),none,some (.slice A13 (setl t41 t40 false).length ((a0.length : Int).toNat)),none,none,none,none,none,some (.slice A13 (setl t41 t40 false).length ((a0.length : Int).toNat)),none,none,none,none,none,none,none,none,none,none,none,none,none,none,none,none,none,none,none,none,none,none,none,none,none,none,none,none,none,none]) (by simp only [setl_len]) ?_
      refine sR 7 td214 ?_
      have hS198:=hS197.pick1
      have hS199:=hS198.drop
      refine sR 1 td215 ?_
      exact rF _ (ih48 (IntKind.i64.wrap (t40 + 1)) (setl t41 t40 false) _ hp190 he46 _ _ hS199)
     have hp200:=ite_f hp160 h166
     refine sR 7 td219 ?_
     obtain ⟨g201,hp202⟩:=ite_some hp200
     obtain ⟨b203,p204,hA205,-⟩:=(hS65.row 1 rfl).at_ len_encB (by omega) g201.1 g201.2
     refine r_indexAddr (c:=p21_30) (i:=14) (d:=(some 71)) (ty:=0) (t:=102) (e:=4) (n:=t41.length) (cp:=(a0.length : Int).toNat) (sz:=1) (kk:=.i64) (x:=(.tmp 57)) (y:=(.tmp 58)) (b:=b203) (o':=p204) (j:=t40) (by kernel_rfl) (by kernel_rfl) (slv (by kernel_rfl) hA205) (by kernel_rfl) (by kernel_rfl) (by kernel_rfl) g201.1 g201.2 ?_
     have hS207:=hS65.pick1
     refine r_storeEl (c:=p21_30) (i:=15) (d:=none) (ty:=0) (enc:=encB) (e:=4) (t:=4) (sz:=1) (cp:=(a0.length : Int).toNat) (A:=A13) (xs:=t41) (x:=(.tmp 71)) (y:=(.tmp 70)) (el:=gt t41 t40) (el':=false) (j:=t40) (off:=0) (b:=b203) (p:=p204) (v:=.bool false) (vs:=[.bool false]) (ad:=⟨b203,p204 + t40.toNat * 1,none⟩) hS207 (by kernel_rfl) (by kernel_rfl) (by kernel_rfl) (by simp) (by kernel_rfl) hA205 g201 rfl len_encB (by kernel_rfl) (by kernel_rfl) (by kernel_rfl) (Nat.le_of_ble_eq_true (by kernel_rfl)) (Nat.le_of_ble_eq_true (by kernel_rfl)) (by kernel_rfl) ?_
     intro w208 hS209
     refine rF [none,none,none,none,none,none,none,some (.slice A13 t41.length ((a0.length : Int).toNat)),none,none,none,none,none,none,none,none,none,none,none,none,none,none,none,none,none,none,none,none,none,none,none,none,none,none,none,none,none,none,none,none,none,none,none,none,none,none,none,none,none,none,none,none,none,none,none,none,none,some (.slice A13 t41.length ((a0.length : Int).toNat)),none,some (.slice A13 t41.length ((a0.length : Int).toNat)),none,none,none,none,none,none,none,none,none,none,none,none,none,none,none,none,none,none,none,none,none,none,none,none,none,none,none,none,none,none,none,none,none,none,none,none] ?_
     refine Runs.refill (m':=[none,none,none,none,none,none,none,some (.slice A13 (setl t41 t40 false).length ((a0.length : Int).toNat)),none,none,none,none,none,none,none,none,none,none,none,none,none,none,none,none,none,none,none,none,none,none,none,none,none,none,none,none,none,none,none,none,none,none,none,none,none,none,none,none,none,none,none,none,none,none,none,none,none,some (.slice A13 (setl t41 t40 false).length ((a0.length : Int).toNat)),none,some (.slice A13 (setl t41 t40 false).length ((a0.length : Int).toNat)),none,none,none,none,none,none,none,none,none,none,none,none,none,none,none,none,none,none,none,none,none,none,none,none,none,none,none,none,none,none,none,none,none,none,none,none]) (by simp only [setl_len]) ?_
     refine sR 7 td214 ?_
     have hS210:=hS209.pick1
     have hS211:=hS210.drop
     refine sR 1 td215 ?_
     exact rF _ (ih48 (IntKind.i64.wrap (t40 + 1)) (setl t41 t40 false) _ hp202 he46 _ _ hS211)
    refine sI 6 (.inRegion (opsOf (cd21 [1,1,1,0,1,0,0,1,1,0,0,1,1,0,1,1,1,1,1,1,1,1,0])) [1]::.code (cd21 [1,1,1,0,1,0,0,1,1,0,0,1,1,0,1,1,1,1,1,1,1,1,1])::td218) 73 hp212 (fun hp215 => ?_) fun hp269 => ?_
    ·refine sR 8 (iR p21_33 4 12::td218) ?_
     refine rL1 3 (.tmp 77) 1 (hS65.blk 0 rfl) ?_
     obtain ⟨g216,hp217⟩:=ite_some hp215
     obtain ⟨b218,p219,hA220,-⟩:=(hS65.row 1 rfl).at_ len_encB (by omega) g216.1 g216.2
     refine r_indexAddr (c:=p21_33) (i:=5) (d:=(some 79)) (ty:=0) (t:=102) (e:=4) (n:=t41.length) (cp:=(a0.length : Int).toNat) (sz:=1) (kk:=.i64) (x:=(.tmp 76)) (y:=(.tmp 78)) (b:=b218) (o':=p219) (j:=(gt a0 t40).A) (by kernel_rfl) (by kernel_rfl) (slv (by kernel_rfl) hA220) (by kernel_rfl) (by kernel_rfl) (by kernel_rfl) g216.1 g216.2 ?_
     refine rL1 4 (.tmp 79) 0 ((hS65.row 1 rfl).at2 hA220 len_encB (by omega) g216.1 g216.2) ?_
     refine r_split (gt t41 ((gt a0 t40).A)) (fun h222 => ?_) (fun h223 => ?_)
     ·have hp224:=ite_t hp217 h222
      refine sR 7 td220 ?_
      obtain ⟨g225,hp226⟩:=ite_some hp224
      obtain ⟨b227,p228,hA229,-⟩:=(hS65.row 1 rfl).at_ len_encB (by omega) g225.1 g225.2
      refine r_indexAddr (c:=p21_33) (i:=14) (d:=(some 88)) (ty:=0) (t:=102) (e:=4) (n:=t41.length) (cp:=(a0.length : Int).toNat) (sz:=1) (kk:=.i64) (x:=(.tmp 74)) (y:=(.tmp 75)) (b:=b227) (o':=p228) (j:=t40) (by kernel_rfl) (by kernel_rfl) (slv (by kernel_rfl) hA229) (by kernel_rfl) (by kernel_rfl) (by kernel_rfl) g225.1 g225.2 ?_
      have hS231:=hS65.pick1
      refine r_storeEl (c:=p21_33) (i:=15) (d:=none) (ty:=0) (enc:=encB) (e:=4) (t:=4) (sz:=1) (cp:=(a0.length : Int).toNat) (A:=A13) (xs:=t41) (x:=(.tmp 88)) (y:=(.tmp 87)) (el:=gt t41 t40) (el':=true) (j:=t40) (off:=0) (b:=b227) (p:=p228) (v:=.bool true) (vs:=[.bool true]) (ad:=⟨b227,p228 + t40.toNat * 1,none⟩) hS231 (by kernel_rfl) (by kernel_rfl) (by kernel_rfl) (by simp) (by kernel_rfl) hA229 g225 rfl len_encB (by kernel_rfl) (by kernel_rfl) (by kernel_rfl) (Nat.le_of_ble_eq_true (by kernel_rfl)) (Nat.le_of_ble_eq_true (by kernel_rfl)) (by kernel_rfl) ?_
      intro w232 hS233
      refine rF [none,none,none,none,none,none,none,some (.slice A13 t41.length ((a0.length : Int).toNat)),none,none,none,none,none,none,none,none,none,none,none,none,none,none,none,none,none,none,none,none,none,none,none,none,none,none,none,none,none,none,none,none,none,none,none,none,none,none,none,none,none,none,none,none,none,none,none,none,none,none,none,none,none,none,none,none,none,none,none,none,none,none,none,none,none,none,some (.slice A13 t41.length ((a0.length : Int).toNat)),none,some (.slice A13 t41.length ((a0.length : Int).toNat)),none,none,none,none,none,none,none,none,none,none,none,none,none,none,none,none,none,none,none] ?_
      refine Runs.refill (m':=[none,none,none,none,none,none,none,some (.slice A13 (setl t41 t40 true).length ((a0.length : Int).toNat)),none,none,none,none,none,none,none,none,none,none,none,none,none,none,none,none,none,none,none,none,none,none,none,none,none,none,none,none,none,none,none,none,none,none,none,none,none,none,none,none,none,none,none,none,none,none,none,none,none,none,none,none,none,none,none,none,none,none,none,none,none,none,none,none,none,none,some (.slice A13 (setl t41 t40 true).length ((a0.length : Int).toNat)),none,some (.slice A13 (setl t41 t40 true).length ((a0.length : Int).toNat)),none,none,none,none,none,none,none,none,none,none,none,none,none,none,none,none,none,none,none]) (by simp only [setl_len]) ?_
      refine sR 7 td214 ?_
      have hS234:=hS233.pick1
      have hS235:=hS234.drop
      refine sR 1 td215 ?_
      exact rF _ (ih48 (IntKind.i64.wrap (t40 + 1)) (setl t41 t40 true) _ hp226 he46 _ _ hS235)
     have hp236:=ite_f hp217 h223
     refine sR 3 (iR p21_33 10 6::td218) ?_
     refine rL1 3 (.tmp 83) 2 (hS65.blk 0 rfl) ?_
     obtain ⟨g237,hp238⟩:=ite_some hp236
     obtain ⟨b239,p240,hA241,-⟩:=(hS65.row 1 rfl).at_ len_encB (by omega) g237.1 g237.2
     refine r_indexAddr (c:=p21_33) (i:=11) (d:=(some 85)) (ty:=0) (t:=102) (e:=4) (n:=t41.length) (cp:=(a0.length : Int).toNat) (sz:=1) (kk:=.i64) (x:=(.tmp 82)) (y:=(.tmp 84)) (b:=b239) (o':=p240) (j:=(gt a0 t40).B) (by kernel_rfl) (by kernel_rfl) (slv (by kernel_rfl) hA241) (by kernel_rfl) (by kernel_rfl) (by kernel_rfl) g237.1 g237.2 ?_
     refine rL1 4 (.tmp 85) 0 ((hS65.row 1 rfl).at2 hA241 len_encB (by omega) g237.1 g237.2) ?_
     refine r_split (gt t41 ((gt a0 t40).B)) (fun h243 => ?_) (fun h244 => ?_)
     ·have hp245:=ite_t hp238 h243
      refine sR 1 td220 ?_
      obtain ⟨g246,hp247⟩:=ite_some hp245
      obtain ⟨b248,p249,hA250,-⟩:=(hS65.row 1 rfl).at_ len_encB (by omega) g246.1 g246.2
      refine r_indexAddr (c:=p21_33) (i:=14) (d:=(some 88)) (ty:=0) (t:=102) (e:=4) (n:=t41.length) (cp:=(a0.length : Int).toNat) (sz:=1) (kk:=.i64) (x:=(.tmp 74)) (y:=(.tmp 75)) (b:=b248) (o':=p249) (j:=t40) (by kernel_rfl) (by kernel_rfl) (slv (by kernel_rfl) hA250) (by kernel_rfl) (by kernel_rfl) (by kernel_rfl) g246.1 g246.2 ?_
      have hS252:=hS65.pick1
      refine r_storeEl (c:=p21_33) (i:=15) (d:=none) (ty:=0) (enc:=encB) (e:=4) (t:=4) (sz:=1) (cp:=(a0.length : Int).toNat) (A:=A13) (xs:=t41) (x:=(.tmp 88)) (y:=(.tmp 87)) (el:=gt t41 t40) (el':=true) (j:=t40) (off:=0) (b:=b248) (p:=p249) (v:=.bool true) (vs:=[.bool true]) (ad:=⟨b248,p249 + t40.toNat * 1,none⟩) hS252 (by kernel_rfl) (by kernel_rfl) (by kernel_rfl) (by simp) (by kernel_rfl) hA250 g246 rfl len_encB (by kernel_rfl) (by kernel_rfl) (by kernel_rfl) (Nat.le_of_ble_eq_true (by kernel_rfl)) (Nat.le_of_ble_eq_true (by kernel_rfl)) (by kernel_rfl) ?_
      intro w253 hS254
      refine rF [none,none,none,none,none,none,none,some (.slice A13 t41.length ((a0.length : Int).toNat)),none,none,none,none,none,none,none,none,none,none,none,none,none,none,none,none,none,none,none,none,none,none,none,none,none,none,none,none,none,none,none,none,none,none,none,none,none,none,none,none,none,none,none,none,none,none,none,none,none,none,none,none,none,none,none,none,none,none,none,none,none,none,none,none,none,none,some (.slice A13 t41.length ((a0.length : Int).toNat)),none,some (.slice A13 t41.length ((a0.length : Int).toNat)),none,none,none,none,none,some (.slice A13 t41.length ((a0.length : Int).toNat)),none,none,none,none,none,none,none,none,none,none,none,none,none] ?_
      refine Runs.refill (m':=[none,none,none,none,none,none,none,some (.slice A13 (setl t41 t40 true).length ((a0.length : Int).toNat)),none,none,none,none,none,none,none,none,none,none,none,none,none,none,none,none,none,none,none,none,none,none,none,none,none,none,none,none,none,none,none,none,none,none,none,none,none,none,none,none,none,none,none,none,none,none,none,none,none,none,none,none,none,none,none,none,none,none,none,none,none,none,none,none,none,none,some (.slice A13 (setl t41 t40 true).length ((a0.length : Int).toNat)),none,some (.slice A13 (setl t41 t40 true).length ((a0.length : Int).toNat)),none,none,none,none,none,some (.slice A13 (setl t41 t40 true).length ((a0.length : Int).toNat)),none,none,none,none,none,none,none,none,none,none,none,none,none]) (by simp only [setl_len]) ?_
      refine sR 7 td214 ?_
      have hS255:=hS254.pick1
      have hS256:=hS255.drop
      refine sR 1 td215 ?_
      exact rF _ (ih48 (IntKind.i64.wrap (t40 + 1)) (setl t41 t40 true) _ hp247 he46 _ _ hS256)
     have hp257:=ite_f hp238 h244
     refine sR 1 td220 ?_
     obtain ⟨g258,hp259⟩:=ite_some hp257
     obtain ⟨b260,p261,hA262,-⟩:=(hS65.row 1 rfl).at_ len_encB (by omega) g258.1 g258.2
     refine r_indexAddr (c:=p21_33) (i:=14) (d:=(some 88)) (ty:=0) (t:=102) (e:=4) (n:=t41.length) (cp:=(a0.length : Int).toNat) (sz:=1) (kk:=.i64) (x:=(.tmp 74)) (y:=(.tmp 75)) (b:=b260) (o':=p261) (j:=t40) (by kernel_rfl) (by kernel_rfl) (slv (by kernel_rfl) hA262) (by kernel_rfl) (by kernel_rfl) (by kernel_rfl) g258.1 g258.2 ?_
     have hS264:=hS65.pick1
     refine r_storeEl (c:=p21_33) (i:=15) (d:=none) (ty:=0) (enc:=encB) (e:=4) (t:=4) (sz:=1) (cp:=(a0.length : Int).toNat) (A:=A13) (xs:=t41) (x:=(.tmp 88)) (y:=(.tmp 87)) (el:=gt t41 t40) (el':=false) (j:=t40) (off:=0) (b:=b260) (p:=p261) (v:=.bool false) (vs:=[.bool false]) (ad:=⟨b260,p261 + t40.toNat * 1,none⟩) hS264 (by kernel_rfl) (by kernel_rfl) (by kernel_rfl) (by simp) (by kernel_rfl) hA262 g258 rfl len_encB (by kernel_rfl) (by kernel_rfl) (by kernel_rfl) (Nat.le_of_ble_eq_true (by kernel_rfl)) (Nat.le_of_ble_eq_true (by kernel_rfl)) (by kernel_rfl) ?_
     intro w265 hS266
     refine rF [none,none,none,none,none,none,none,some (.slice A13 t41.length ((a0.length : Int).toNat)),none,none,none,none,none,none,none,none,none,none,none,none,none,none,none,none,none,none,none,none,none,none,none,none,none,none,none,none,none,none,none,none,none,none,none,none,none,none,none,none,none,none,none,none,none,none,none,none,none,none,none,none,none,none,none,none,none,none,none,none,none,none,none,none,none,none,some (.slice A13 t41.length ((a0.length : Int).toNat)),none,some (.slice A13 t41.length ((a0.length : Int).toNat)),none,none,none,none,none,some (.slice A13 t41.length ((a0.length : Int).toNat)),none,none,none,none,none,none,none,none,none,none,none,none,none] ?_
     refine Runs.refill (m':=[none,none,none,none,none,none,none,some (.slice A13 (setl t41 t40 false).length ((a0.length : Int).toNat)),none,none,none,none,none,none,none,none,none,none,none,none,none,none,none,none,none,none,none,none,none,none,none,none,none,none,none,none,none,none,none,none,none,none,none,none,none,none,none,none,none,none,none,none,none,none,none,none,none,none,none,none,none,none,none,none,none,none,none,none,none,none,none,none,none,none,some (.slice A13 (setl t41 t40 false).length ((a0.length : Int).toNat)),none,some (.slice A13 (setl t41 t40 false).length ((a0.length : Int).toNat)),none,none,none,none,none,some (.slice A13 (setl t41 t40 false).length ((a0.length : Int).toNat)),none,none,none,none,none,none,none,none,none,none,none,none,none]) (by simp only [setl_len]) ?_
     refine sR 7 td214 ?_
     have hS267:=hS266.pick1
     have hS268:=hS267.drop
     refine sR 1 td215 ?_
     exact rF _ (ih48 (IntKind.i64.wrap (t40 + 1)) (setl t41 t40 false) _ hp259 he46 _ _ hS268)
    refine sR 10 td214 ?_
    have hS270:=hS65.drop
    refine sR 1 td215 ?_
    exact rF _ (ih48 (IntKind.i64.wrap (t40 + 1)) (id t41) _ hp269 he46 _ _ hS270)
   refine sR 4 td212 ?_
   exact rF _ (J23 t41 ((Option.some.inj hp271).trans he46) _ _ hS43)
  exact rF _ (L50 0 (List.replicate (a0.length : Int).toNat false) _ hv18 rfl _ _ hS15)

noncomputable def cd15 (p : List Nat) : Code := sub (bodyOf Tryz.f15) p
def weirlaw06_num.f (a0 : Int) : Option Int :=
  some (a0)
theorem weirlaw06_num.ok {a0 q0 : Int} (hp0 : weirlaw06_num.f a0 = some q0) (hS0 : St w0 Z (fs) w) :
    Calls Tryz.prog 15 #[.int .i64 a0] w (fun e w' => e = .returned (.int .i64 q0) ∧ St w0 Z (fs) w'):=by
  refine calls_abs ?_; intro R hR
  unfold weirlaw06_num.f at hp0
  refine calls_of_runs (fn:=Tryz.f15) (c:=cd15 []) Tryz.func15 (by kernel_rfl) (al:=[.int .i64 a0]) rfl (n:=3) rfl ?_
  refine sR 9 [.code (cd15 [1,1])] ?_
  refine rR (.int .i64 a0) Tryz.func15 ?_
  cases Option.some.inj hp0
  exact hR _ _ ⟨rfl,hS0⟩

noncomputable def cd13 (p : List Nat) : Code := sub (bodyOf Tryz.f13) p
abbrev p13_6:=cd13 [1,1,1,1,0]
abbrev td221:List Item:=[.code (cd13 [1,1,1,1,1])]
def weirlaw06_works.f : Option Bool :=
  (cond_Parse.f (⟨#[48,58,69,65,88,61,48,32,47,92,32,126,40,120,61,49,32,92,47,32,91,121,93,61,48,120,49,48,41]⟩ : ByteArray) >>= (fun (t1,t2) => (cond_Text.f t1 >>= (fun (t15,t16) => (cond_Holds.f t1 >>= (fun (t27,t28) => (if (PErr.isNil t2) = true then (if ((t1.length : Int) == 6) = true then (weirlaw06_num.f t16 >>= (fun t45 => (if (t45 == 0) = true then (if (seq t15 (⟨#[48,58,69,65,88,61,48,32,47,92,32,126,40,120,61,49,32,92,47,32,121,61,49,54,41]⟩ : ByteArray)) = true then (if t27 = true then (weirlaw06_num.f t28 >>= (fun t61 => (if (t61 == 0) = true then some (true) else some (false)))) else some (false)) else some (false)) else some (false)))) else some (false)) else some (false))))))))
theorem weirlaw06_works.ok {q0 : Bool} (hp0 : weirlaw06_works.f = some q0) (hS0 : St w0 Z (fs) w) (hE : Env Z) :
    Calls Tryz.prog 13 #[] w (fun e w' => e = .returned (.bool q0) ∧ St w0 Z (fs) w'):=by
  refine calls_abs ?_; intro R hR
  unfold weirlaw06_works.f at hp0
  refine calls_of_runs (fn:=Tryz.f13) (c:=cd13 []) Tryz.func13 (by kernel_rfl) (al:=[]) rfl (n:=45) rfl ?_
  refine sR 6 [iR (cd13 [1,0]) 0 6,.code (cd13 [1,1])] ?_
  obtain ⟨⟨t1,t2⟩,hr6,hp7⟩:=bind_some' hp0
  try dsimp only at hp7
  refine rC (cond_Parse.ok hr6 hS0 hE) ?_
  rintro _ w10 ⟨Q3,Q4,Q5,Z12,hz13,rfl,hS11,hs14⟩
  refine ⟨_,rfl,?_⟩
  refine sR 9 [iR (cd13 [1,1,0]) 1 6,.code (cd13 [1,1,1])] ?_
  obtain ⟨⟨t15,t16⟩,hr17,hp18⟩:=bind_some' hp7
  try dsimp only at hp18
  obtain ⟨Z19,hz20,hS21,hs22,hb23⟩:=hS11.lendrow len_api_Node (by omega)
  refine rC (cond_Text.ok hr17 hS21 hs22 (hE.up (Zm.Le.trans hz13 hz20))) ?_
  rintro _ w24 ⟨rfl,hS25⟩
  refine ⟨_,rfl,?_⟩
  have hS26:=hb23 _ _ hS25
  refine sR 9 [iR (cd13 [1,1,1,0]) 1 6,.code (cd13 [1,1,1,1])] ?_
  obtain ⟨⟨t27,t28⟩,hr29,hp30⟩:=bind_some' hp18
  try dsimp only at hp30
  obtain ⟨Z31,hz32,hS33,hs34,hb35⟩:=hS26.lendrow len_api_Node (by omega)
  refine rC (cond_Holds.ok hr29 hS33 hs34) ?_
  rintro _ w36 ⟨rfl,hS37⟩
  refine ⟨_,rfl,?_⟩
  have hS38:=hb35 _ _ hS37
  refine sR 9 (iR p13_6 1 24::td221) ?_
  refine rV (.binOp .eql 25 (.tmp 21) (.const (.nilIface)) 25) (.bool (PErr.isNil t2)) (fun o ho _ => x_errNil (neg:=false) hs14 (by kernel_rfl) (by kernel_rfl) (fun _ _ => (by kernel_rfl)) ho) ?_
  refine r_split (PErr.isNil t2) (fun h39 => ?_) (fun h40 => ?_)
  ·have hp41:=ite_t hp30 h39
   refine sI 4 (iR p13_6 6 19::td221) 26 hp41 (fun hp44 => ?_) fun hp84 => ?_
   ·refine sR 3 (iR p13_6 9 16::td221) ?_
    obtain ⟨t45,hr46,hp47⟩:=bind_some' hp44
    refine rC (weirlaw06_num.ok hr46 hS38) ?_
    rintro _ w48 ⟨rfl,hS49⟩
    refine ⟨_,rfl,?_⟩
    refine sI 1 (iR p13_6 11 14::td221) 31 hp47 (fun hp52 => ?_) fun hp80 => ?_
    ·refine sI 4 (iR p13_6 15 10::td221) 35 hp52 (fun hp55 => ?_) fun hp76 => ?_
     ·refine sR 5 (iR p13_6 20 5::td221) ?_
      cases t27
      ·have hp56:=ite_f hp55 rfl
       refine sR 6 td221 ?_
       have hS57:=hS49.drop
       have hS58:=hS57.less hz13
       refine rR (.bool false) Tryz.func13 ?_
       cases Option.some.inj hp56
       exact hR _ _ ⟨rfl,hS58⟩
      have hp60:=ite_t hp55 rfl
      refine sR 1 (iR p13_6 21 4::td221) ?_
      obtain ⟨t61,hr62,hp63⟩:=bind_some' hp60
      refine rC (weirlaw06_num.ok hr62 hS49) ?_
      rintro _ w64 ⟨rfl,hS65⟩
      refine ⟨_,rfl,?_⟩
      refine sI 1 (.inRegion (opsOf p13_6) [23,24]::td221) 43 hp63 (fun hp68 => ?_) fun hp72 => ?_
      ·refine sR 3 td221 ?_
       have hS69:=hS65.drop
       have hS70:=hS69.less hz13
       refine rR (.bool true) Tryz.func13 ?_
       cases Option.some.inj hp68
       exact hR _ _ ⟨rfl,hS70⟩
      refine sR 3 td221 ?_
      have hS73:=hS65.drop
      have hS74:=hS73.less hz13
      refine rR (.bool false) Tryz.func13 ?_
      cases Option.some.inj hp72
      exact hR _ _ ⟨rfl,hS74⟩
     refine sR 11 td221 ?_
     have hS77:=hS49.drop
     have hS78:=hS77.less hz13
     refine rR (.bool false) Tryz.func13 ?_
     cases Option.some.inj hp76
     exact hR _ _ ⟨rfl,hS78⟩
    refine sR 15 td221 ?_
    have hS81:=hS49.drop
    have hS82:=hS81.less hz13
    refine rR (.bool false) Tryz.func13 ?_
    cases Option.some.inj hp80
    exact hR _ _ ⟨rfl,hS82⟩
   refine sR 20 td221 ?_
   have hS85:=hS38.drop
   have hS86:=hS85.less hz13
   refine rR (.bool false) Tryz.func13 ?_
   cases Option.some.inj hp84
   exact hR _ _ ⟨rfl,hS86⟩
  have hp88:=ite_f hp30 h40
  refine sR 24 td221 ?_
  have hS89:=hS38.drop
  have hS90:=hS89.less hz13
  refine rR (.bool false) Tryz.func13 ?_
  cases Option.some.inj hp88
  exact hR _ _ ⟨rfl,hS90⟩

noncomputable def cd62 (p : List Nat) : Code := sub (bodyOf Tryz.f62) p
abbrev p62_5:=cd62 [1,1,1]
def cond_plain_1.f (a0 : api_Node) (a1vv : List api_Node) : Option (Int × (List api_Node)) :=
  (if (a1vv.length + ([a0] : List api_Node).length) * 56 ≤ 140737488355328 then some (((IntKind.i64.wrap (((a1vv ++ ([a0] : List api_Node)).length : Int) - 1)),(a1vv ++ ([a0] : List api_Node)))) else none)
theorem cond_plain_1.ok {a0 : api_Node} {a1vv : List api_Node} {ba1 ba1v : Nat} {Aa1vv : Option Addr} {ca1vv : Nat} {q0 : Int} {q1 : List api_Node} (hp0 : cond_plain_1.f a0 a1vv = some (q0,q1)) (hS0 : St w0 Z (xblk ba1 101 ([.pointer (some ⟨ba1v,0,none⟩)])::xblk ba1v 23 ([.slice Aa1vv a1vv.length ca1vv])::xrow Aa1vv ca1vv 68 6 (a1vv.flatMap enc_api_Node)::fs) w) :
    Calls Tryz.prog 62 #[.agg (enc_api_Node a0).toArray,.pointer (some ⟨ba1,0,none⟩)] w (fun e w' => ∃ (QA0 : Option Addr) (Qc0 : Nat),e = .returned (.int .i64 q0) ∧ St w0 Z (xrow QA0 Qc0 68 6 (q1.flatMap enc_api_Node)::xblk ba1 101 ([.pointer (some ⟨ba1v,0,none⟩)])::xblk ba1v 23 ([.slice QA0 q1.length Qc0])::fs) w'):=by
  refine calls_abs ?_; intro R hR
  unfold cond_plain_1.f at hp0
  refine calls_of_runs (fn:=Tryz.f62) (c:=cd62 []) Tryz.func62 (by kernel_rfl) (al:=[.agg (enc_api_Node a0).toArray,.pointer (some ⟨ba1,0,none⟩)]) rfl (n:=15) rfl ?_
  refine sR 2 [.inRegion (opsOf (cd62 [0])) [0,1],.code (cd62 [1])] ?_
  refine r_box (c:=(cd62 [0])) (i:=0) (d:=(some 2)) (ty:=0) (x:=(.tmp 0)) (v:=.agg (enc_api_Node a0).toArray) (t:=68) (cs:=enc_api_Node a0) hS0 (by kernel_rfl) (by kernel_rfl) (by kernel_rfl) (by kernel_rfl) ?_
  intro b1 w2 hS3
  refine sR 3 [.code (cd62 [1,0]),.code (cd62 [1,1])] ?_
  obtain ⟨g7,hp8⟩:=ite_some hp0
  refine r_drawnG (S:=Option (Nat × Option ((Option Addr × Nat) × Option Unit))) (rank:=(fun st => match st with | none => 0 | some (b5,none) => 1 | some (b5,some (x12,none)) => 2 | some (b5,some (x12,some x13)) => 3)) (C:=(fun st w' => match st with | none => St w0 Z (xblk b1 68 (enc_api_Node a0)::xblk ba1 101 ([.pointer (some ⟨ba1v,0,none⟩)])::xblk ba1v 23 ([.slice Aa1vv a1vv.length ca1vv])::xrow Aa1vv ca1vv 68 6 (a1vv.flatMap enc_api_Node)::fs) w' | some (b5,none) => St w0 Z (xrow (some ⟨b5,0,none⟩) 1 68 6 (([a0] : List api_Node).flatMap enc_api_Node)::xblk b1 68 (enc_api_Node a0)::xblk ba1 101 ([.pointer (some ⟨ba1v,0,none⟩)])::xblk ba1v 23 ([.slice Aa1vv a1vv.length ca1vv])::xrow Aa1vv ca1vv 68 6 (a1vv.flatMap enc_api_Node)::fs) w' | some (b5,some (x12,none)) => St w0 Z (xrow x12.1 x12.2 68 6 ((a1vv ++ ([a0] : List api_Node)).flatMap enc_api_Node)::xrow (some ⟨b5,0,none⟩) 1 68 6 (([a0] : List api_Node).flatMap enc_api_Node)::xblk b1 68 (enc_api_Node a0)::xblk ba1 101 ([.pointer (some ⟨ba1v,0,none⟩)])::xblk ba1v 23 ([.slice Aa1vv a1vv.length ca1vv])::fs) w' | some (b5,some (x12,some x13)) => St w0 Z (xblk ba1v 23 ([.slice x12.1 (a1vv ++ ([a0] : List api_Node)).length x12.2])::xrow x12.1 x12.2 68 6 ((a1vv ++ ([a0] : List api_Node)).flatMap enc_api_Node)::xrow (some ⟨b5,0,none⟩) 1 68 6 (([a0] : List api_Node).flatMap enc_api_Node)::xblk b1 68 (enc_api_Node a0)::xblk ba1 101 ([.pointer (some ⟨ba1v,0,none⟩)])::fs) w')) (v:=(fun st => match st with | none => [.pointer (some ⟨ba1v,0,none⟩),.pointer (some ⟨ba1v,0,none⟩),.pointer (some ⟨ba1v,0,none⟩),.slice Aa1vv a1vv.length ca1vv,.agg (enc_api_Node a0).toArray,undef,undef,undef,undef] | some (b5,none) => [.pointer (some ⟨ba1v,0,none⟩),.pointer (some ⟨ba1v,0,none⟩),.pointer (some ⟨ba1v,0,none⟩),.slice Aa1vv a1vv.length ca1vv,.agg (enc_api_Node a0).toArray,.slice (some ⟨b5,0,none⟩) ([a0] : List api_Node).length 1,undef,undef,undef] | some (b5,some (x12,none)) => [.pointer (some ⟨ba1v,0,none⟩),.pointer (some ⟨ba1v,0,none⟩),.pointer (some ⟨ba1v,0,none⟩),.slice Aa1vv a1vv.length ca1vv,.agg (enc_api_Node a0).toArray,.slice (some ⟨b5,0,none⟩) ([a0] : List api_Node).length 1,.slice x12.1 (a1vv ++ ([a0] : List api_Node)).length x12.2,.pointer (some ⟨ba1v,0,none⟩),undef] | some (b5,some (x12,some x13)) => [.pointer (some ⟨ba1v,0,none⟩),.pointer (some ⟨ba1v,0,none⟩),.pointer (some ⟨ba1v,0,none⟩),.slice Aa1vv a1vv.length ca1vv,.agg (enc_api_Node a0).toArray,.slice (some ⟨b5,0,none⟩) ([a0] : List api_Node).length 1,.slice x12.1 (a1vv ++ ([a0] : List api_Node)).length x12.2,.pointer (some ⟨ba1v,0,none⟩),undef])) (c:=(cd62 [1,0])) (id:=1) none 8 9 [5,6,8] [0,0,0,0,0,0,1,2,2] [2,2,2,1,0,1,2,2,3] [] (by kernel_rfl) (by kernel_rfl) (by kernel_rfl) (by kernel_rfl) (by kernel_rfl) (by kernel_rfl) (by kernel_rfl) (by kernel_rfl) (by kernel_rfl) (by kernel_rfl) rfl hS3.drew ?_ ?_ ?_ ?_
  ·intro st w hC
   rcases st with _ | ⟨b5,_ | ⟨x12,_ | x13⟩⟩
   ·exact nbl rfl
   ·exact nbl rfl
   ·exact nbl rfl
   ·exact nbl rfl
  ·intro i hi he st w hC hr hu
   match i,hi,he with
   | 0,_,_ =>
    rcases st with _ | ⟨b5,_ | ⟨x12,_ | x13⟩⟩
    ·dsimp only at hC
     exact does_run (x_load (t:=101) (x:=(.tmp 1)) (p:=⟨ba1,0,none⟩) (v:=.pointer (some ⟨ba1v,0,none⟩)) (by kernel_rfl) (loads_at 0 (hC.blk 1 rfl) (by kernel_rfl) (by kernel_rfl)) (by kernel_rfl)) rfl hC
    ·dsimp only at hC
     exact does_run (x_load (t:=101) (x:=(.tmp 1)) (p:=⟨ba1,0,none⟩) (v:=.pointer (some ⟨ba1v,0,none⟩)) (by kernel_rfl) (loads_at 0 (hC.blk 2 rfl) (by kernel_rfl) (by kernel_rfl)) (by kernel_rfl)) rfl hC
    ·dsimp only at hC
     exact does_run (x_load (t:=101) (x:=(.tmp 1)) (p:=⟨ba1,0,none⟩) (v:=.pointer (some ⟨ba1v,0,none⟩)) (by kernel_rfl) (loads_at 0 (hC.blk 3 rfl) (by kernel_rfl) (by kernel_rfl)) (by kernel_rfl)) rfl hC
    ·exact absurd hu (nle rfl)
   | 1,_,_ =>
    rcases st with _ | ⟨b5,_ | ⟨x12,_ | x13⟩⟩
    ·dsimp only at hC
     exact does_run (x_load (t:=101) (x:=(.tmp 1)) (p:=⟨ba1,0,none⟩) (v:=.pointer (some ⟨ba1v,0,none⟩)) (by kernel_rfl) (loads_at 0 (hC.blk 1 rfl) (by kernel_rfl) (by kernel_rfl)) (by kernel_rfl)) rfl hC
    ·dsimp only at hC
     exact does_run (x_load (t:=101) (x:=(.tmp 1)) (p:=⟨ba1,0,none⟩) (v:=.pointer (some ⟨ba1v,0,none⟩)) (by kernel_rfl) (loads_at 0 (hC.blk 2 rfl) (by kernel_rfl) (by kernel_rfl)) (by kernel_rfl)) rfl hC
    ·dsimp only at hC
     exact does_run (x_load (t:=101) (x:=(.tmp 1)) (p:=⟨ba1,0,none⟩) (v:=.pointer (some ⟨ba1v,0,none⟩)) (by kernel_rfl) (loads_at 0 (hC.blk 3 rfl) (by kernel_rfl) (by kernel_rfl)) (by kernel_rfl)) rfl hC
    ·exact absurd hu (nle rfl)
   | 2,_,_ =>
    rcases st with _ | ⟨b5,_ | ⟨x12,_ | x13⟩⟩
    ·dsimp only at hC
     exact dP (.pointer (some ⟨ba1v,0,none⟩)) hC
    ·dsimp only at hC
     exact dP (.pointer (some ⟨ba1v,0,none⟩)) hC
    ·dsimp only at hC
     exact dP (.pointer (some ⟨ba1v,0,none⟩)) hC
    ·exact absurd hu (nle rfl)
   | 3,_,_ =>
    rcases st with _ | ⟨b5,_ | ⟨x12,_ | x13⟩⟩
    ·dsimp only at hC
     exact does_run (x_load (t:=23) (x:=(.tmp 6)) (p:=⟨ba1v,0,none⟩) (v:=.slice Aa1vv a1vv.length ca1vv) (by kernel_rfl) (loads_at 0 (hC.blk 2 rfl) (by kernel_rfl) (by kernel_rfl)) (by kernel_rfl)) rfl hC
    ·dsimp only at hC
     exact does_run (x_load (t:=23) (x:=(.tmp 6)) (p:=⟨ba1v,0,none⟩) (v:=.slice Aa1vv a1vv.length ca1vv) (by kernel_rfl) (loads_at 0 (hC.blk 3 rfl) (by kernel_rfl) (by kernel_rfl)) (by kernel_rfl)) rfl hC
    ·exact absurd hu (nle rfl)
    ·exact absurd hu (nle rfl)
   | 4,_,_ =>
    rcases st with _ | ⟨b5,_ | ⟨x12,_ | x13⟩⟩
    ·dsimp only at hC
     exact does_run (x_load (t:=68) (x:=(.tmp 2)) (p:=⟨b1,0,none⟩) (v:=.agg (enc_api_Node a0).toArray) (by kernel_rfl) (loads_agg (hC.blk 0 rfl) (by kernel_rfl) (by kernel_rfl)) (by kernel_rfl)) rfl hC
    ·exact absurd hu (nle rfl)
    ·exact absurd hu (nle rfl)
    ·exact absurd hu (nle rfl)
   | 5,_,he => exact absurd he (by decide)
   | 6,_,he => exact absurd he (by decide)
   | 7,_,_ =>
    rcases st with _ | ⟨b5,_ | ⟨x12,_ | x13⟩⟩
    ·exact absurd hr (nle rfl)
    ·exact absurd hr (nle rfl)
    ·dsimp only at hC
     exact dP (.pointer (some ⟨ba1v,0,none⟩)) hC
    ·exact absurd hu (nle rfl)
   | 8,_,he => exact absurd he (by decide)
   | i + 9,hi,_ => exact absurd hi (by omega)
  ·intro k hk st w hC hr
   match k,hk with
   | 0,_ =>
    rcases st with _ | ⟨b5,_ | ⟨x12,_ | x13⟩⟩
    ·dsimp only at hC
     refine does_lit (t:=23) (e:=68) (sz:=6) (n:=1) (parts:=#[(0,(.tmp 8))]) (vs:=[(0,.agg (enc_api_Node a0).toArray)]) (z:=zeroOf Tryz.prog 68) (cs':=([a0] : List api_Node).flatMap enc_api_Node) hC (by kernel_rfl) (by kernel_rfl) (by kernel_rfl) (by kernel_rfl) (by decide) (by decide) (by kernel_rfl) rfl (Parts.cons (c:=enc_api_Node a0) (by kernel_rfl) (len_api_Node _) Parts.nil) rfl ?_
     intro b5 w2 h2
     refine ⟨some (b5,none),rfl,?_,.inr rfl,h2⟩
     intro j hj
     match j,hj with
     | 0,_ => exact rfl
     | 1,_ => exact rfl
     | 2,_ => exact rfl
     | 3,_ => exact rfl
     | 4,_ => exact rfl
     | 5,hj => exact absurd hj (by decide)
     | 6,hj => exact absurd hj (by decide)
     | 7,hj => exact absurd hj (by decide)
     | 8,hj => exact absurd hj (by decide)
     | j + 9,_ => exact rfl
    ·exact absurd hr (Nat.ne_of_beq_eq_false rfl)
    ·exact absurd hr (Nat.ne_of_beq_eq_false rfl)
    ·exact absurd hr (Nat.ne_of_beq_eq_false rfl)
   | 1,_ =>
    rcases st with _ | ⟨b5,_ | ⟨x12,_ | x13⟩⟩
    ·exact absurd hr (Nat.ne_of_beq_eq_false rfl)
    ·dsimp only at hC
     have hC:=hC.pick4
     refine does_append (enc:=enc_api_Node) (e:=68) (u:=68) (t:=23) (t2:=23) (sz:=6) (cp:=ca1vv) (A:=Aa1vv) (bytes:=56) (xs:=a1vv) (ys:=([a0] : List api_Node)) (s:=(.tmp 7)) (x:=(.tmp 9)) (xv:=.slice (some ⟨b5,0,none⟩) ([a0] : List api_Node).length 1) (info:=infoOf Tryz.prog 68) (z:=zeroOf Tryz.prog 68) (ycs:=([a0] : List api_Node).flatMap enc_api_Node) hC (by kernel_rfl) (by kernel_rfl) (by kernel_rfl) (by kernel_rfl) (.inl (by kernel_rfl)) (by kernel_rfl) (by kernel_rfl) (by kernel_rfl) (by kernel_rfl) (by kernel_rfl) (by omega) len_api_Node one_api_Node (src_row (hC.row 1 rfl) (by omega) len_api_Node) rfl g7 (by omega) ?_
     intro A9 c10 w2 h2
     refine ⟨some (b5,some ((A9,c10),none)),rfl,?_,.inr rfl,h2⟩
     intro j hj
     match j,hj with
     | 0,_ => exact rfl
     | 1,_ => exact rfl
     | 2,_ => exact rfl
     | 3,_ => exact rfl
     | 4,_ => exact rfl
     | 5,_ => exact rfl
     | 6,hj => exact absurd hj (by decide)
     | 7,hj => exact absurd hj (by decide)
     | 8,hj => exact absurd hj (by decide)
     | j + 9,_ => exact rfl
    ·exact absurd hr (Nat.ne_of_beq_eq_false rfl)
    ·exact absurd hr (Nat.ne_of_beq_eq_false rfl)
   | 2,_ =>
    rcases st with _ | ⟨b5,_ | ⟨x12,_ | x13⟩⟩
    ·exact absurd hr (Nat.ne_of_beq_eq_false rfl)
    ·exact absurd hr (Nat.ne_of_beq_eq_false rfl)
    ·dsimp only at hC
     have hC:=hC.pick4
     refine dS 23 (.tmp 11) (.tmp 10) 0 (.slice x12.1 (a1vv ++ ([a0] : List api_Node)).length x12.2) [.slice x12.1 (a1vv ++ ([a0] : List api_Node)).length x12.2] [.slice x12.1 (a1vv ++ ([a0] : List api_Node)).length x12.2] hC ?_
     intro w2 h2
     refine ⟨some (b5,some (x12,some ())),rfl,?_,.inl rfl,h2⟩
     intro j hj
     match j,hj with
     | 0,_ => exact rfl
     | 1,_ => exact rfl
     | 2,_ => exact rfl
     | 3,_ => exact rfl
     | 4,_ => exact rfl
     | 5,_ => exact rfl
     | 6,_ => exact rfl
     | 7,_ => exact rfl
     | 8,hj => exact absurd hj (by decide)
     | j + 9,_ => exact rfl
    ·exact absurd hr (Nat.ne_of_beq_eq_false rfl)
   | k + 3,hk => exact absurd hk (by simp)
  intro st17 w14 hS15 hr16
  rcases st17 with _ | ⟨b5,_ | ⟨x12,_ | x13⟩⟩
  ·exact absurd hr16 (nle rfl)
  ·exact absurd hr16 (nle rfl)
  ·exact absurd hr16 (nle rfl)
  replace hS15 : St w0 Z (xblk ba1v 23 ([.slice x12.1 (a1vv ++ ([a0] : List api_Node)).length x12.2])::xrow x12.1 x12.2 68 6 ((a1vv ++ ([a0] : List api_Node)).flatMap enc_api_Node)::xrow (some ⟨b5,0,none⟩) 1 68 6 (([a0] : List api_Node).flatMap enc_api_Node)::xblk b1 68 (enc_api_Node a0)::xblk ba1 101 ([.pointer (some ⟨ba1v,0,none⟩)])::fs) w14:=hS15
  refine sR 2 [iR (cd62 [1,1,0]) 0 6,.code p62_5] ?_
  refine rL1 101 (.tmp 1) 0 (hS15.blk 4 rfl) ?_
  refine sR 1 [iR (cd62 [1,1,0]) 2 4,.code p62_5] ?_
  refine rL1 23 (.tmp 13) 0 (hS15.blk 0 rfl) ?_
  refine sR 4 [.code p62_5] ?_
  have hS18:=hS15.pick2
  have hS19:=hS18.drop
  have hS20:=hS19.pick2
  have hS21:=hS20.drop
  have hS22:=hS21.pick2
  have hS23:=hS22.pick2
  refine rR (.int .i64 (IntKind.i64.wrap (((a1vv ++ ([a0] : List api_Node)).length : Int) - 1))) Tryz.func62 ?_
  cases Option.some.inj hp8
  exact hR _ _ ⟨x12.1,x12.2,rfl,hS23⟩

def cond_plain.Spec (rec : (List api_Node) → Int → Bool → (List api_Node) → Option (Int × (List api_Node))) : Prop:=∀ (a0 : List api_Node) (a1 : Int) (a2 : Bool) (a3v : List api_Node) (Aa0 : Option Addr) (ca0 ba3 : Nat) (Aa3v : Option Addr) (ca3v : Nat) {w0 : World} {Z : Zm} {fs : List XObj} {w : World} (_ : St w0 Z (xblk ba3 23 ([.slice Aa3v a3v.length ca3v])::xrow Aa3v ca3v 68 6 (a3v.flatMap enc_api_Node)::fs) w) (_ : SlZ (flat enc_api_Node) 6 Z Aa0 ca0 a0) {q0 : Int} {q1 : List api_Node},rec a0 a1 a2 a3v = some (q0,q1) →
    Calls Tryz.prog 38 #[.slice Aa0 a0.length ca0,.int .i64 a1,.bool a2,.pointer (some ⟨ba3,0,none⟩)] w (fun e w' => ∃ (QA0 : Option Addr) (Qc0 : Nat),e = .returned (.int .i64 q0) ∧ St w0 Z (xrow QA0 Qc0 68 6 (q1.flatMap enc_api_Node)::xblk ba3 23 ([.slice QA0 q1.length Qc0])::fs) w')

noncomputable def cd38 (p : List Nat) : Code := sub (bodyOf Tryz.f38) p
abbrev p38_9:=cd38 [1,1,1,0,1,0,1,0,0]
abbrev p38_15:=cd38 [1,1,1,1,1,1]
abbrev p38_18:=cd38 [1,1,1,1,1,0,1,0,1]
abbrev p38_19:=cd38 [1,1,1,0,1,0,1,1,1,0,0]
abbrev p38_20:=cd38 [1,1,1,0,1,0,1,1,1,0,1]
abbrev p38_21:=cd38 [1,1,1,0,1,0,1,1,1,0,1,0]
abbrev p38_22:=cd38 [1,1,1,0,1,0,1,1,1,0,1,1]
abbrev p38_28:=cd38 [1,1,1,0,1,0,1,1,1,0,1,1,1,1,1]
abbrev td222:List Item:=[.code (cd38 [1,1,1,1])]
abbrev td223:List Item:=.inBlock 0::td222
abbrev td224:List Item:=.code (cd38 [1,1,1,0,1,0,1,0,1])::td223
abbrev td225:List Item:=.code (cd38 [1,1,1,0,1,0,1,1,1])::td223
abbrev td226:List Item:=.code (cd38 [1,1,1,0,1,0,1,1,1,0,1,1,1,1])::td223
def cond_plain.body (rec_cond_plain : (List api_Node) → Int → Bool → (List api_Node) → Option (Int × (List api_Node))) (a0 : List api_Node) (a1 : Int) (a2 : Bool) (a3v : List api_Node) : Option (Int × (List api_Node)) :=
  (if 0 ≤ a1 ∧ a1 < (a0.length : Int) then (if (((gt a0 a1).Op) == 3) = true then (if (!a2) = true then (rec_cond_plain a0 ((gt a0 a1).A) true a3v >>= (fun (t23,t24) => some ((t23,t24)))) else (rec_cond_plain a0 ((gt a0 a1).A) false a3v >>= (fun (t40,t41) => some ((t40,t41))))) else (((if (((gt a0 a1).Op) == 4) = true then some (true) else (if (((gt a0 a1).Op) == 5) = true then some (true) else some (false))) : Option Bool) >>= (fun t60 => (if t60 = true then (rec_cond_plain a0 ((gt a0 a1).A) a2 a3v >>= (fun (t103,t104) => (rec_cond_plain a0 ((gt a0 a1).B) a2 t104 >>= (fun (t114,t115) => (((if a2 = true then some ((IntKind.i64.wrap (9 - ((gt a0 a1).Op)))) else some ((gt a0 a1).Op)) : Option Int) >>= (fun t127 => (cond_plain_1.f (⟨t127,t103,t114,(⟨0,(⟨#[]⟩ : ByteArray)⟩ : api_Ref),0⟩ : api_Node) t115 >>= (fun (t133,t134) => some ((t133,t134)))))))))) else (cond_plain_1.f (gt a0 a1) a3v >>= (fun (t67,t68) => (if a2 = true then (cond_plain_1.f (⟨3,t67,0,(⟨0,(⟨#[]⟩ : ByteArray)⟩ : api_Ref),0⟩ : api_Node) t68 >>= (fun (t86,t87) => some ((t86,t87)))) else some ((t67,t68))))))))) else none)
theorem cond_plain.bok (rec_cond_plain : (List api_Node) → Int → Bool → (List api_Node) → Option (Int × (List api_Node))) (hrec_cond_plain : cond_plain.Spec rec_cond_plain) : cond_plain.Spec (cond_plain.body rec_cond_plain):=by
  intro a0 a1 a2 a3v Aa0 ca0 ba3 Aa3v ca3v w0 Z fs w hS0 ha0 q0 q1 hp0
  refine calls_abs ?_; intro R hR
  unfold cond_plain.body at hp0
  refine calls_of_runs (fn:=Tryz.f38) (c:=cd38 []) Tryz.func38 (by kernel_rfl) (al:=[.slice Aa0 a0.length ca0,.int .i64 a1,.bool a2,.pointer (some ⟨ba3,0,none⟩)]) rfl (n:=62) rfl ?_
  refine sR 2 [.inRegion (opsOf (cd38 [0])) [0,1],.code (cd38 [1])] ?_
  refine r_box (c:=(cd38 [0])) (i:=0) (d:=(some 7)) (ty:=0) (x:=(.tmp 3)) (v:=.pointer (some ⟨ba3,0,none⟩)) (t:=101) (cs:=[.pointer (some ⟨ba3,0,none⟩)]) hS0 (by kernel_rfl) (by kernel_rfl) (by kernel_rfl) (by kernel_rfl) ?_
  intro b1 w2 hS3
  refine sR 11 [iR (cd38 [1,1,0]) 2 4,.code (cd38 [1,1,1])] ?_
  obtain ⟨g5,hp6⟩:=ite_some hp0
  obtain ⟨b7,p8,hA9,hc10⟩:=ha0.atF g5.1 g5.2
  refine r_indexAddr (c:=(cd38 [1,1,0])) (i:=2) (d:=(some 18)) (ty:=0) (t:=23) (e:=68) (n:=a0.length) (cp:=ca0) (sz:=6) (kk:=.i64) (x:=(.tmp 16)) (y:=(.tmp 17)) (b:=b7) (o':=p8) (j:=a1) (by kernel_rfl) (by kernel_rfl) (slv (by kernel_rfl) hA9) (by kernel_rfl) (by kernel_rfl) (by kernel_rfl) g5.1 g5.2 ?_
  refine rLa 68 (.tmp 18) (hc10.cells hS3) ?_
  refine rA 68 (.agg (enc_api_Node (⟨0,0,0,⟨0,(⟨#[]⟩ : ByteArray)⟩,0⟩ : api_Node)).toArray) (enc_api_Node (⟨0,0,0,⟨0,(⟨#[]⟩ : ByteArray)⟩,0⟩ : api_Node)) hS3 ?_
  intro b11 w12 hS13
  refine rSA 68 (.tmp 10) (.tmp 19) (enc_api_Node (gt a0 a1)) hS13 (one_api_Node _) ?_
  intro w15 hS16
  refine sR 5 (.inRegion (opsOf (cd38 [1,1,1,0,0])) [1]::.code (cd38 [1,1,1,0,1])::td222) ?_
  refine rL1 3 (.tmp 20) 0 (hS16.blk 0 rfl) ?_
  refine sI 5 (.inRegion (opsOf (cd38 [1,1,1,0,1,0,0])) [1]::.code (cd38 [1,1,1,0,1,0,1])::td223) 23 hp6 (fun hp19 => ?_) fun hp56 => ?_
  ·refine sR 7 (iR p38_9 2 6::td224) ?_
   refine rL1 3 (.tmp 25) 1 (hS16.blk 0 rfl) ?_
   refine sI 2 (.inRegion (opsOf p38_9) [5,6,7]::td224) 28 hp19 (fun hp22 => ?_) fun hp39 => ?_
   ·refine rL1 101 (.tmp 7) 0 (hS16.blk 1 rfl) ?_
    obtain ⟨⟨t23,t24⟩,hr27,hp28⟩:=bind_some' hp22
    try dsimp only at hp28
    have hS30:=hS16.pick3
    have hS31:=hS30.pick3
    refine rC (hrec_cond_plain a0 ((gt a0 a1).A) true a3v Aa0 ca0 ba3 Aa3v ca3v hS31 ha0 hr27) ?_
    rintro _ w32 ⟨Q25,Q26,rfl,hS33⟩
    refine ⟨_,rfl,?_⟩
    refine sR 2 td224 ?_
    have hS34:=hS33.pick2
    have hS35:=hS34.drop
    have hS36:=hS35.pick2
    have hS37:=hS36.drop
    refine rR (.int .i64 t23) Tryz.func38 ?_
    cases Option.some.inj hp28
    exact hR _ _ ⟨Q25,Q26,rfl,hS37⟩
   refine rL1 101 (.tmp 7) 0 (hS16.blk 1 rfl) ?_
   obtain ⟨⟨t40,t41⟩,hr44,hp45⟩:=bind_some' hp39
   try dsimp only at hp45
   have hS47:=hS16.pick3
   have hS48:=hS47.pick3
   refine rC (hrec_cond_plain a0 ((gt a0 a1).A) false a3v Aa0 ca0 ba3 Aa3v ca3v hS48 ha0 hr44) ?_
   rintro _ w49 ⟨Q42,Q43,rfl,hS50⟩
   refine ⟨_,rfl,?_⟩
   refine sR 2 td224 ?_
   have hS51:=hS50.pick2
   have hS52:=hS51.drop
   have hS53:=hS52.pick2
   have hS54:=hS53.drop
   refine rR (.int .i64 t40) Tryz.func38 ?_
   cases Option.some.inj hp45
   exact hR _ _ ⟨Q42,Q43,rfl,hS54⟩
  obtain ⟨v57,hv58,hp59⟩:=bind_some' hp56
  have J63 : ∀ (t60 : Bool) (he65 : t60 = v57) (l64 : List Value) (w61 : World) (hS62 : St w0 Z (xblk b1 101 ([.pointer (some ⟨ba3,0,none⟩)])::xblk ba3 23 ([.slice Aa3v a3v.length ca3v])::xrow Aa3v ca3v 68 6 (a3v.flatMap enc_api_Node)::xblk b11 68 (enc_api_Node (gt a0 a1))::fs) w61),Runs Tryz.prog (fx 38) td225 (fill (mk 66 [(0,.slice Aa0 a0.length ca0),(2,.bool a2),(7,.pointer (some ⟨b1,0,none⟩)),(9,.func (.func 62) #[] #[.pointer (some ⟨b1,0,none⟩)]),(10,.pointer (some ⟨b11,0,none⟩)),(31,.bool t60)]) l64) w61 R:=by
   intro t60 he65 l64 w61 hS62
   subst he65
   try dsimp only at hp59
   cases t60
   ·have hp66:=ite_f hp59 rfl
    refine sR 6 [.inRegion (opsOf (cd38 [1,1,1,1,0])) [1,2,3],.code (cd38 [1,1,1,1,1])] ?_
    refine rLa 68 (.tmp 10) (hS62.blk 3 rfl) ?_
    obtain ⟨⟨t67,t68⟩,hr71,hp72⟩:=bind_some' hp66
    try dsimp only at hp72
    have hS74:=hS62.pick2
    have hS75:=hS74.pick2
    have hS76:=hS75.pick2
    refine rC (cond_plain_1.ok hr71 hS76) ?_
    rintro _ w77 ⟨Q69,Q70,rfl,hS78⟩
    refine ⟨_,rfl,?_⟩
    refine sR 7 [.code (cd38 [1,1,1,1,1,0,1]),.code p38_15] ?_
    cases a2
    ·have hp79:=ite_f hp72 rfl
     refine sR 7 [.code (cd38 [1,1,1,1,1,1,1])] ?_
     have hS80:=hS78.pick1
     have hS81:=hS80.drop
     have hS82:=hS81.pick2
     have hS83:=hS82.drop
     refine rR (.int .i64 t67) Tryz.func38 ?_
     cases Option.some.inj hp79
     exact hR _ _ ⟨Q69,Q70,rfl,hS83⟩
    have hp85:=ite_t hp72 rfl
    refine sR 6 [.inRegion (opsOf (cd38 [1,1,1,1,1,0,1,0,0])) [3,4],.code p38_18,.code p38_15] ?_
    obtain ⟨⟨t86,t87⟩,hr90,hp91⟩:=bind_some' hp85
    try dsimp only at hp91
    have hS93:=hS78.pick2
    have hS94:=hS93.pick2
    refine rC (cond_plain_1.ok hr90 hS94) ?_
    rintro _ w95 ⟨Q88,Q89,rfl,hS96⟩
    refine ⟨_,rfl,?_⟩
    refine sR 2 [.code p38_18,.code p38_15] ?_
    have hS97:=hS96.pick1
    have hS98:=hS97.drop
    have hS99:=hS98.pick2
    have hS100:=hS99.drop
    refine rR (.int .i64 t86) Tryz.func38 ?_
    cases Option.some.inj hp91
    exact hR _ _ ⟨Q88,Q89,rfl,hS100⟩
   have hp102:=ite_t hp59 rfl
   refine sR 5 (iR p38_19 2 5::.code p38_20::td223) ?_
   refine rL1 3 (.tmp 35) 1 (hS62.blk 3 rfl) ?_
   refine sR 1 (.inRegion (opsOf p38_19) [4,5,6]::.code p38_20::td223) ?_
   refine rL1 101 (.tmp 7) 0 (hS62.blk 0 rfl) ?_
   obtain ⟨⟨t103,t104⟩,hr107,hp108⟩:=bind_some' hp102
   try dsimp only at hp108
   have hS110:=hS62.pick2
   have hS111:=hS110.pick2
   refine rC (hrec_cond_plain a0 ((gt a0 a1).A) a2 a3v Aa0 ca0 ba3 Aa3v ca3v hS111 ha0 hr107) ?_
   rintro _ w112 ⟨Q105,Q106,rfl,hS113⟩
   refine ⟨_,rfl,?_⟩
   refine sR 6 (iR p38_21 2 5::.code p38_22::td223) ?_
   refine rL1 3 (.tmp 41) 2 (hS113.blk 3 rfl) ?_
   refine sR 1 (.inRegion (opsOf p38_21) [4,5,6]::.code p38_22::td223) ?_
   refine rL1 101 (.tmp 7) 0 (hS113.blk 2 rfl) ?_
   obtain ⟨⟨t114,t115⟩,hr118,hp119⟩:=bind_some' hp108
   try dsimp only at hp119
   have hS121:=hS113.pick1
   refine rC (hrec_cond_plain a0 ((gt a0 a1).B) a2 t104 Aa0 ca0 ba3 Q105 Q106 hS121 ha0 hr118) ?_
   rintro _ w122 ⟨Q116,Q117,rfl,hS123⟩
   refine ⟨_,rfl,?_⟩
   refine sR 5 (.inRegion (opsOf (cd38 [1,1,1,0,1,0,1,1,1,0,1,1,0])) [1,2]::.code (cd38 [1,1,1,0,1,0,1,1,1,0,1,1,1])::td223) ?_
   refine rL1 3 (.tmp 46) 0 (hS123.blk 3 rfl) ?_
   refine sR 7 (.code (cd38 [1,1,1,0,1,0,1,1,1,0,1,1,1,0,1])::td226) ?_
   obtain ⟨v124,hv125,hp126⟩:=bind_some' hp119
   have J130 : ∀ (t127 : Int) (he132 : t127 = v124) (l131 : List Value) (w128 : World) (hS129 : St w0 Z (xblk b1 101 ([.pointer (some ⟨ba3,0,none⟩)])::xblk ba3 23 ([.slice Q116 t115.length Q117])::xrow Q116 Q117 68 6 (t115.flatMap enc_api_Node)::fs) w128),Runs Tryz.prog (fx 38) td226 (fill (mk 66 [(9,.func (.func 62) #[] #[.pointer (some ⟨b1,0,none⟩)]),(11,.int .i64 t103),(12,.int .i64 t114),(13,.int .i64 t127)]) l131) w128 R:=by
    intro t127 he132 l131 w128 hS129
    subst he132
    try dsimp only at hp126
    refine sR 7 (.inRegion (opsOf (cd38 [1,1,1,0,1,0,1,1,1,0,1,1,1,1,0])) [5,6]::.code p38_28::td223) ?_
    obtain ⟨⟨t133,t134⟩,hr137,hp138⟩:=bind_some' hp126
    try dsimp only at hp138
    have hS140:=hS129.pick2
    have hS141:=hS140.pick2
    have hS142:=hS141.pick2
    refine rC (cond_plain_1.ok hr137 hS142) ?_
    rintro _ w143 ⟨Q135,Q136,rfl,hS144⟩
    refine ⟨_,rfl,?_⟩
    refine sR 2 (.code p38_28::td223) ?_
    refine r_isret (c:=p38_28) (by kernel_rfl) ?_
    have hS145:=hS144.pick1
    have hS146:=hS145.drop
    refine rR (.int .i64 t133) Tryz.func38 ?_
    cases Option.some.inj hp138
    exact hR _ _ ⟨Q135,Q136,rfl,hS146⟩
   cases a2
   ·have hp148:=ite_f hv125 rfl
    refine sR 2 td226 ?_
    have hS149:=hS123.pick3
    have hS150:=hS149.drop
    have hS151:=hS150.pick1
    have hS152:=hS151.pick2
    exact rF _ (J130 ((gt a0 a1).Op) (Option.some.inj hp148) _ _ hS152)
   have hp153:=ite_t hv125 rfl
   refine sR 6 td226 ?_
   have hS154:=hS123.pick3
   have hS155:=hS154.drop
   have hS156:=hS155.pick1
   have hS157:=hS156.pick2
   exact rF _ (J130 (IntKind.i64.wrap (9 - ((gt a0 a1).Op))) (Option.some.inj hp153) _ _ hS157)
  refine sI 7 (.inRegion (opsOf (cd38 [1,1,1,0,1,0,1,1,0,0])) [1]::.code (cd38 [1,1,1,0,1,0,1,1,0,1])::td225) 32 hv58 (fun hp160 => ?_) fun hp164 => ?_
  ·refine sR 4 td225 ?_
   have hS161:=hS16.pick3
   have hS162:=hS161.pick3
   have hS163:=hS162.pick3
   exact rF _ (J63 true (Option.some.inj hp160) _ _ hS163)
  refine sI 5 (.inRegion (opsOf (cd38 [1,1,1,0,1,0,1,1,0,1,1])) [1]::td225) 33 hp164 (fun hp167 => ?_) fun hp171 => ?_
  ·refine sR 2 td225 ?_
   have hS168:=hS16.pick3
   have hS169:=hS168.pick3
   have hS170:=hS169.pick3
   exact rF _ (J63 true (Option.some.inj hp167) _ _ hS170)
  refine sR 2 td225 ?_
  have hS172:=hS16.pick3
  have hS173:=hS172.pick3
  have hS174:=hS173.pick3
  exact rF _ (J63 false (Option.some.inj hp171) _ _ hS174)
def cond_plain.f : Nat → (List api_Node) → Int → Bool → (List api_Node) → Option (Int × (List api_Node))
  | 0 => fun _ _ _ _ => none
  | n + 1 => cond_plain.body (cond_plain.f n)
theorem cond_plain.all : ∀ n,cond_plain.Spec (cond_plain.f n)
  | 0 => by
    intro a0 a1 a2 a3v Aa0 ca0 ba3 Aa3v ca3v w0 Z fs w hS0 ha0 q0 q1 hp0
    cases hp0
  | n + 1 => cond_plain.bok (cond_plain.f n) (cond_plain.all n)
theorem cond_plain.ok : cond_plain.Spec (cond_plain.f fuelN):=cond_plain.all fuelN

noncomputable def cd20 (p : List Nat) : Code := sub (bodyOf Tryz.f20) p
abbrev p20_12:=cd20 [1,1,1,1,1]
abbrev p20_16:=cd20 [1,1,1,1,1,1]
def cond_Plain.f (a0 : List api_Node) : Option ((List api_Node) × Int) :=
  (cond_Check.f a0 >>= (fun t1 => (if (t1 != 0) = true then some (([],t1)) else (cond_plain.f fuelN a0 (IntKind.i64.wrap ((a0.length : Int) - 1)) false ([] : List api_Node) >>= (fun (t19,t20) => (if (decide ((t20.length : Int) > 1024)) = true then some (([],1)) else (cond_Check.f t20 >>= (fun t40 => (if (t40 != 0) = true then some (([],t40)) else some ((t20,0)))))))))))
theorem cond_Plain.ok {a0 : List api_Node} {Aa0 : Option Addr} {ca0 : Nat} {q0 : List api_Node} {q1 : Int} (hp0 : cond_Plain.f a0 = some (q0,q1)) (hS0 : St w0 Z (fs) w) (ha0 : SlZ (flat enc_api_Node) 6 Z Aa0 ca0 a0) :
    Calls Tryz.prog 20 #[.slice Aa0 a0.length ca0] w (fun e w' => ∃ (QA0 : Option Addr) (Qc0 : Nat),e = .returned (.tuple #[.slice QA0 q0.length Qc0,.int .i64 q1]) ∧ St w0 Z (xrow QA0 Qc0 68 6 (q0.flatMap enc_api_Node)::fs) w'):=by
  refine calls_abs ?_; intro R hR
  unfold cond_Plain.f at hp0
  refine calls_of_runs (fn:=Tryz.f20) (c:=cd20 []) Tryz.func20 (by kernel_rfl) (al:=[.slice Aa0 a0.length ca0]) rfl (n:=25) rfl ?_
  refine sR 9 [.inRegion (opsOf (cd20 [1,0,0])) [1,2],.code (cd20 [1,0,1]),.code (cd20 [1,1])] ?_
  obtain ⟨t1,hr2,hp3⟩:=bind_some' hp0
  refine rC (cond_Check.ok hr2 hS0 ha0) ?_
  rintro _ w4 ⟨rfl,hS5⟩
  refine ⟨_,rfl,?_⟩
  refine sI 6 [.inRegion (opsOf (cd20 [1,0,1,0])) [],.code (cd20 [1,0,1,1]),.code (cd20 [1,1])] 10 hp3 (fun hp8 => ?_) fun hp12 => ?_
  ·refine sR 8 [.code (cd20 [1,0,1,1,0,1]),.code (cd20 [1,1])] ?_
   have hS10:=hS5.nilrow none 68 6
   refine rR (.tuple #[.slice none 0 0,.int .i64 t1]) Tryz.func20 ?_
   cases Option.some.inj hp8
   exact hR _ _ ⟨none,0,rfl,hS10⟩
  refine sR 5 [.inRegion (opsOf (cd20 [1,1,0])) [0],.code (cd20 [1,1,1])] ?_
  refine rA 23 (.slice none 0 0) [.slice none 0 0] hS5 ?_
  intro b13 w14 hS15
  refine sR 7 [.inRegion (opsOf (cd20 [1,1,1,0])) [4],.code (cd20 [1,1,1,1])] ?_
  have hS18:=hS15.nilrow none 68 6
  obtain ⟨⟨t19,t20⟩,hr23,hp24⟩:=bind_some' hp12
  try dsimp only at hp24
  have hS26:=hS18.pick1
  refine rC (cond_plain.ok a0 (IntKind.i64.wrap ((a0.length : Int) - 1)) false ([] : List api_Node) Aa0 ca0 b13 none 0 hS26 ha0 hr23) ?_
  rintro _ w27 ⟨Q21,Q22,rfl,hS28⟩
  refine ⟨_,rfl,?_⟩
  refine sR 4 [.inRegion (opsOf (cd20 [1,1,1,1,0,0])) [0,1,2],.code (cd20 [1,1,1,1,0,1]),.code p20_12] ?_
  refine rL1 23 (.tmp 5) 0 (hS28.blk 1 rfl) ?_
  refine sI 2 [.inRegion (opsOf (cd20 [1,1,1,1,0,0])) [],.code (cd20 [1,1,1,1,0,1]),.code p20_12] 19 hp24 (fun hp31 => ?_) fun hp39 => ?_
  ·refine sR 7 [.code (cd20 [1,1,1,1,0,1,0,1]),.code p20_12] ?_
   have hS33:=hS28.nilrow none 68 6
   have hS34:=hS33.pick1
   have hS35:=hS34.drop
   have hS36:=hS35.pick1
   have hS37:=hS36.drop
   refine rR (.tuple #[.slice none 0 0,.int .i64 1]) Tryz.func20 ?_
   cases Option.some.inj hp31
   exact hR _ _ ⟨none,0,rfl,hS37⟩
  refine sR 6 [.inRegion (opsOf (cd20 [1,1,1,1,1,0,0])) [0,1,2],.code (cd20 [1,1,1,1,1,0,1]),.code p20_16] ?_
  refine rL1 23 (.tmp 5) 0 (hS28.blk 1 rfl) ?_
  obtain ⟨t40,hr41,hp42⟩:=bind_some' hp39
  obtain ⟨Z43,hz44,hS45,hs46,hb47⟩:=hS28.lendrow len_api_Node (by omega)
  refine rC (cond_Check.ok hr41 hS45 hs46) ?_
  rintro _ w48 ⟨rfl,hS49⟩
  refine ⟨_,rfl,?_⟩
  have hS50:=hb47 _ _ hS49
  refine sI 6 [.inRegion (opsOf (cd20 [1,1,1,1,1,0,1,0])) [],.code (cd20 [1,1,1,1,1,0,1,1]),.code p20_16] 23 hp42 (fun hp53 => ?_) fun hp61 => ?_
  ·refine sR 8 [.code (cd20 [1,1,1,1,1,0,1,1,0,1]),.code p20_16] ?_
   have hS55:=hS50.nilrow none 68 6
   have hS56:=hS55.pick1
   have hS57:=hS56.drop
   have hS58:=hS57.pick1
   have hS59:=hS58.drop
   refine rR (.tuple #[.slice none 0 0,.int .i64 t40]) Tryz.func20 ?_
   cases Option.some.inj hp53
   exact hR _ _ ⟨none,0,rfl,hS59⟩
  refine sR 5 [.inRegion (opsOf (cd20 [1,1,1,1,1,1,0])) [0,1,2],.code (cd20 [1,1,1,1,1,1,1])] ?_
  refine rL1 23 (.tmp 5) 0 (hS50.blk 1 rfl) ?_
  refine sR 3 [.code (cd20 [1,1,1,1,1,1,1])] ?_
  have hS62:=hS50.pick1
  have hS63:=hS62.drop
  refine rR (.tuple #[.slice Q21 t20.length Q22,.int .i64 0]) Tryz.func20 ?_
  cases Option.some.inj hp61
  exact hR _ _ ⟨Q21,Q22,rfl,hS63⟩

noncomputable def cd22 (p : List Nat) : Code := sub (bodyOf Tryz.f22) p
abbrev p22_6:=cd22 [1,0,1,0,0,0,0]
abbrev p22_9:=cd22 [1,0,1,0,0,1,0,0,0]
abbrev p22_12:=cd22 [1,0,1,0,0,1,0,0,1,0,0]
abbrev td227:List Item:=[.code (cd22 [1,1])]
abbrev td228:List Item:=.inBlock 0::td227
abbrev td229:List Item:=.inLoop (cd22 [1,0,1,0,0])::td228
abbrev td230:List Item:=.code (cd22 [1,0,1,0,0])::td229
abbrev td231:List Item:=.code (cd22 [1,0,1,0,0,1])::td229
abbrev td232:List Item:=.code (cd22 [1,0,1,0,0,0,1])::td231
abbrev td233:List Item:=.code (cd22 [1,0,1,0,0,1,1])::td229
abbrev td234:List Item:=.inBlock 1::td233
abbrev td235:List Item:=.code (cd22 [1,0,1,0,0,1,0,0,1,0,1])::td234
def weirlaw06_Set__of.l0 (a0 : weirlaw06_Set) (a1 : api_Ref) (t20 : Int) : Option (Sum Unit Int) :=
  (if (decide (t20 < (a0.Refs.length : Int))) = true then (if (decide (t20 < (a0.Values.length : Int))) = true then (if 0 ≤ t20 ∧ t20 < (a0.Refs.length : Int) then (if (decide ((gt a0.Refs t20) = a1)) = true then (if 0 ≤ t20 ∧ t20 < (a0.Values.length : Int) then some (.inr ((gt a0.Values t20))) else none) else (weirlaw06_Set__of.l0 a0 a1 (IntKind.i64.wrap (t20 + 1)))) else none) else some (.inl ())) else some (.inl ()))
 partial_fixpoint
def weirlaw06_Set__of.f (a0 : weirlaw06_Set) (a1 : api_Ref) : Option Int :=
  (weirlaw06_Set__of.l0 a0 a1 0 >>= (fun | .inl () => some (a0.Rest) | .inr e => some e))
theorem weirlaw06_Set__of.ok {a0 : weirlaw06_Set} {a1 : api_Ref} {y13 : Option Addr} {y14 : Nat} {y15 : Option Addr} {y16 : Nat} {q0 : Int} (hp0 : weirlaw06_Set__of.f a0 a1 = some q0) (hS0 : St w0 Z (fs) w) (y17 : SlZ (flat enc_api_Ref) 2 Z y13 y14 a0.Refs) (y18 : SlZ (flat (encI .i64)) 1 Z y15 y16 a0.Values) :
    Calls Tryz.prog 22 #[.agg #[.slice y13 a0.Refs.length y14,.slice y15 a0.Values.length y16,.int .i64 a0.Rest],.agg (enc_api_Ref a1).toArray] w (fun e w' => e = .returned (.int .i64 q0) ∧ St w0 Z (fs) w'):=by
  refine calls_abs ?_; intro R hR
  unfold weirlaw06_Set__of.f at hp0
  refine calls_of_runs (fn:=Tryz.f22) (c:=cd22 []) Tryz.func22 (by kernel_rfl) (al:=[.agg #[.slice y13 a0.Refs.length y14,.slice y15 a0.Values.length y16,.int .i64 a0.Rest],.agg (enc_api_Ref a1).toArray]) rfl (n:=32) rfl ?_
  refine sR 2 [.inRegion (opsOf (cd22 [0])) [0,1,2],.code (cd22 [1])] ?_
  refine r_box (c:=(cd22 [0])) (i:=0) (d:=(some 2)) (ty:=0) (x:=(.tmp 0)) (v:=.agg #[.slice y13 a0.Refs.length y14,.slice y15 a0.Values.length y16,.int .i64 a0.Rest]) (t:=46) (cs:=[.slice y13 a0.Refs.length y14,.slice y15 a0.Values.length y16,.int .i64 a0.Rest]) hS0 (by kernel_rfl) (by kernel_rfl) (by kernel_rfl) (by kernel_rfl) ?_
  intro b1 w2 hS3
  refine r_box (c:=(cd22 [0])) (i:=1) (d:=(some 3)) (ty:=0) (x:=(.tmp 1)) (v:=.agg (enc_api_Ref a1).toArray) (t:=66) (cs:=enc_api_Ref a1) hS3 (by kernel_rfl) (by kernel_rfl) (by kernel_rfl) (by kernel_rfl) ?_
  intro b5 w6 hS7
  refine sR 9 td230 ?_
  obtain ⟨v9,hv10,hp11⟩:=bind_some' hp0
  have hq14 : ∀ x,Sum.inr x = v9 → x = q0:=by intro x hx; subst hx; simpa using hp11
  have J15 : ∀ (he17 : Sum.inl () = v9) (l16 : List Value) (w12 : World) (hS13 : St w0 Z (xblk b1 46 ([.slice y13 a0.Refs.length y14,.slice y15 a0.Values.length y16,.int .i64 a0.Rest])::fs) w12),Runs Tryz.prog (fx 22) td227 (fill (mk 34 [(2,.pointer (some ⟨b1,0,none⟩))]) l16) w12 R:=by
   intro he17 l16 w12 hS13
   subst he17
   try dsimp only at hp11
   refine sR 3 [.inRegion (opsOf (cd22 [1,1,0])) [1,2],.code (cd22 [1,1,1])] ?_
   refine rL1 2 (.tmp 32) 2 (hS13.blk 0 rfl) ?_
   refine sR 2 [.code (cd22 [1,1,1])] ?_
   have hS18:=hS13.drop
   refine rR (.int .i64 a0.Rest) Tryz.func22 ?_
   cases Option.some.inj hp11
   exact hR _ _ ⟨rfl,hS18⟩
  have L29 : ∀ (t20 : Int) (e24 : Sum Unit Int),weirlaw06_Set__of.l0 a0 a1 t20 = some e24 → e24 = v9 → ∀ (l23 : List Value) (w21 : World) (hS22 : St w0 Z (xblk b1 46 ([.slice y13 a0.Refs.length y14,.slice y15 a0.Values.length y16,.int .i64 a0.Rest])::xblk b5 66 (enc_api_Ref a1)::fs) w21),Runs Tryz.prog (fx 22) td230 (fill (mk 34 [(2,.pointer (some ⟨b1,0,none⟩)),(3,.pointer (some ⟨b5,0,none⟩)),(5,.int .i64 t20)]) l23) w21 R:=by
   refine weirlaw06_Set__of.l0.partial_correctness a0 a1 (fun t20 e24 => e24 = v9 → ∀ (l23 : List Value) (w21 : World) (hS22 : St w0 Z (xblk b1 46 ([.slice y13 a0.Refs.length y14,.slice y15 a0.Values.length y16,.int .i64 a0.Rest])::xblk b5 66 (enc_api_Ref a1)::fs) w21),Runs Tryz.prog (fx 22) td230 (fill (mk 34 [(2,.pointer (some ⟨b1,0,none⟩)),(3,.pointer (some ⟨b5,0,none⟩)),(5,.int .i64 t20)]) l23) w21 R) ?_
   intro rec28 ih27 t20 e24 hb26 he25 l23 w21 hS22
   have hq30 : ∀ x,Sum.inr x = e24 → x = q0:=fun x hx => hq14 x (hx.trans he25)
   refine sR 5 (iR p22_6 2 10::td232) ?_
   refine rL1 43 (.tmp 7) 0 (hS22.blk 0 rfl) ?_
   refine sI 2 (iR p22_6 5 7::td232) 10 hb26 (fun hp33 => ?_) fun hp63 => ?_
   ·refine sR 3 (iR p22_6 8 4::td232) ?_
    refine rL1 44 (.tmp 13) 1 (hS22.blk 0 rfl) ?_
    refine sI 2 (.inRegion (opsOf p22_6) [11]::td232) 16 hp33 (fun hp36 => ?_) fun hp60 => ?_
    ·refine sR 7 (.code p22_9::.code (cd22 [1,0,1,0,0,1,0,0,1])::td234) ?_
     refine r_quiet hS22 (c:=p22_9) (id:=4) (by kernel_rfl) (by kernel_rfl) (by kernel_rfl) (is:=[0,1,2,3,4,5,6]) (by kernel_rfl) ?_
     refine qR 1 (rg 1 6) ?_
     refine qL1 43 (.tmp 20) 0 (fun w hC => (hC.blk 0 rfl)) ?_
     refine qR 1 (rg 3 4) ?_
     obtain ⟨g37,hp38⟩:=ite_some hp36
     obtain ⟨b39,p40,hA41,hc42⟩:=y17.atF g37.1 g37.2
     refine q_indexAddr (c:=p22_9) (i:=3) (d:=(some 23)) (ty:=0) (t:=43) (e:=66) (n:=a0.Refs.length) (cp:=y14) (sz:=2) (kk:=.i64) (x:=(.tmp 21)) (y:=(.tmp 22)) (b:=b39) (o':=p40) (j:=t20) (by kernel_rfl) (by kernel_rfl) (slv (by kernel_rfl) hA41) (by kernel_rfl) (by kernel_rfl) (by kernel_rfl) g37.1 g37.2 ?_
     refine qLa 66 (.tmp 23) (fun w hC => (hc42.cells hC)) ?_
     refine qLa 66 (.tmp 3) (fun w hC => (hC.blk 1 rfl)) ?_
     refine qV (.binOp .eql 66 (.tmp 24) (.tmp 25) 66) (.bool (decide ((gt a0.Refs t20) = a1))) (fun w hC o ho _ => x_eql_api_Ref (by kernel_rfl) (by kernel_rfl) ho) ?_
     refine q_split (decide ((gt a0.Refs t20) = a1)) (fun h43 => ?_) (fun h44 => ?_)
     ·have hp45:=ite_t hp38 h43
      refine Qs.nil ?_
      intro w46 hS47
      refine sR 4 (iR p22_12 1 5::td235) ?_
      refine rL1 44 (.tmp 27) 1 (hS47.blk 0 rfl) ?_
      refine sR 1 (.inRegion (opsOf p22_12) [3,4,5]::td235) ?_
      obtain ⟨g48,hp49⟩:=ite_some hp45
      obtain ⟨b50,p51,hA52,hc53⟩:=y18.atF g48.1 g48.2
      refine r_indexAddr (c:=p22_12) (i:=3) (d:=(some 30)) (ty:=0) (t:=44) (e:=2) (n:=a0.Values.length) (cp:=y16) (sz:=1) (kk:=.i64) (x:=(.tmp 28)) (y:=(.tmp 29)) (b:=b50) (o':=p51) (j:=t20) (by kernel_rfl) (by kernel_rfl) (slv (by kernel_rfl) hA52) (by kernel_rfl) (by kernel_rfl) (by kernel_rfl) g48.1 g48.2 ?_
      refine rL1 2 (.tmp 30) 0 (hc53.cells hS47) ?_
      refine sR 2 td235 ?_
      have hS54:=hS47.drop
      have hS55:=hS54.drop
      refine rR (.int .i64 (gt a0.Values t20)) Tryz.func22 ?_
      cases hq30 _ (Option.some.inj hp49)
      exact hR _ _ ⟨rfl,hS55⟩
     have hp57:=ite_f hp38 h44
     refine Qs.nil ?_
     intro w58 hS59
     refine sR 8 td229 ?_
     refine sR 1 td230 ?_
     exact rF _ (ih27 (IntKind.i64.wrap (t20 + 1)) _ hp57 he25 _ _ hS59)
    refine sR 4 td227 ?_
    have hS61:=hS22.pick1
    have hS62:=hS61.drop
    exact rF _ (J15 ((Option.some.inj hp60).trans he25) _ _ hS62)
   refine sR 10 td227 ?_
   have hS64:=hS22.pick1
   have hS65:=hS64.drop
   exact rF _ (J15 ((Option.some.inj hp63).trans he25) _ _ hS65)
  have hS66:=hS7.pick1
  exact rF _ (L29 0 _ hv10 rfl _ _ hS66)

end
end Go.Proofs.YtboejepakdnbgaaGreatDoor.K
