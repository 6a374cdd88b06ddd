/- The walk, part 4: each Go function as a plain Lean function, and that its call answers as that function says. No condition. -/
import Derived.Test.YtboejepakdnbgaaGreatDoorE
import Derived.Test.YtboejepakdnbgaaGreatDoorNG
import Derived.Test.YtboejepakdnbgaaGreatDoorNP
import Derived.Test.YtboejepakdnbgaaGreatDoorNM
import Derived.Test.YtboejepakdnbgaaGreatDoorNI
import Derived.Test.YtboejepakdnbgaaGreatDoorNV
import Derived.Test.YtboejepakdnbgaaGreatDoorNX
import Derived.Test.YtboejepakdnbgaaGreatDoorNY
import Derived.Test.YtboejepakdnbgaaGreatDoorNC
import Derived.Test.YtboejepakdnbgaaGreatDoorNF
import Derived.Test.YtboejepakdnbgaaGreatDoorNA
import Derived.Test.YtboejepakdnbgaaGreatDoorF3
set_option linter.unusedVariables false
set_option linter.unusedSimpArgs false
set_option maxRecDepth 100000
namespace Go.Proofs.YtboejepakdnbgaaGreatDoor.K
open Go Go.RowKit
noncomputable section
set_option maxHeartbeats 16000000
variable {w0 : World} {Z : Zm} {fs : List XObj} {w : World}
noncomputable def cd121 (p : List Nat) : Code := sub (bodyOf Tryz.f121) p
def weirref06_reader__fail.f (a0v : weirref06_reader) (a1 : api_Token) (a2 : Int) : Option weirref05_Fault :=
  (weirref06_reader__bad.f a0v >>= (fun t5 => (if (!t5) = true then some ((⟨a1.Line,a1.Col,a2⟩ : weirref05_Fault)) else some (a0v.F))))
theorem weirref06_reader__fail.ok {a0v : weirref06_reader} {a1 : api_Token} {a2 : Int} {ba0 : Nat} {y7 : Option Addr} {y8 : Nat} {y9 : Option Addr} {y10 : Nat} {q0 : weirref05_Fault} (hp0 : weirref06_reader__fail.f a0v a1 a2 = some q0) (hS0 : St w0 Z (xblk ba0 122 ([.slice y7 a0v.L.length y8,.int .i64 a0v.At] ++ (enc_api_Token a0v.Last) ++ [.int .i64 a0v.Deep,.slice y9 a0v.C.length y10] ++ (enc_weirref05_Fault a0v.F))::fs) w) (y11 : SlZ (flat enc_api_Token) 7 Z y7 y8 a0v.L) (y12 : SlZ (flat enc_api_Node) 6 Z y9 y10 a0v.C) :
    Calls Tryz.prog 121 #[.pointer (some ⟨ba0,0,none⟩),.agg (enc_api_Token a1).toArray,.int .i64 a2] w (fun e w' => e = .returned (.tuple #[]) ∧ St w0 Z (xblk ba0 122 ([.slice y7 a0v.L.length y8,.int .i64 a0v.At] ++ (enc_api_Token a0v.Last) ++ [.int .i64 a0v.Deep,.slice y9 a0v.C.length y10] ++ (enc_weirref05_Fault q0))::fs) w'):=by
  refine calls_abs ?_; intro R hR
  unfold weirref06_reader__fail.f at hp0
  refine calls_of_runs (fn:=Tryz.f121) (c:=cd121 []) Tryz.func121 (by kernel_rfl) (al:=[.pointer (some ⟨ba0,0,none⟩),.agg (enc_api_Token a1).toArray,.int .i64 a2]) rfl (n:=15) rfl ?_
  refine sR 2 [.inRegion (opsOf (cd121 [0])) [0],.code (cd121 [1])] ?_
  refine r_box (c:=(cd121 [0])) (i:=0) (d:=(some 4)) (ty:=0) (x:=(.tmp 1)) (v:=.agg (enc_api_Token a1).toArray) (t:=75) (cs:=enc_api_Token a1) hS0 (by kernel_rfl) (by kernel_rfl) (by kernel_rfl) (by kernel_rfl) ?_
  intro b1 w2 hS3
  refine sR 4 [.inRegion (opsOf (cd121 [1,0])) [1,2],.code (cd121 [1,1])] ?_
  obtain ⟨t5,hr6,hp7⟩:=bind_some' hp0
  have hS10:=hS3.pick1
  refine rC (weirref06_reader__bad.ok hr6 hS10 y11 y12) ?_
  rintro _ w11 ⟨rfl,hS12⟩
  refine ⟨_,rfl,?_⟩
  refine sI 1 [.inRegion (opsOf (cd121 [1,0])) [],.code (cd121 [1,1])] 8 hp7 (fun hp15 => ?_) fun hp21 => ?_
  ·refine sR 5 [iR (cd121 [1,1,0]) 2 8] ?_
   refine rL1 3 (.tmp 10) 3 (hS12.blk 1 rfl) ?_
   refine sR 1 [iR (cd121 [1,1,0]) 4 6] ?_
   refine rL1 3 (.tmp 12) 4 (hS12.blk 1 rfl) ?_
   refine sR 4 [.inRegion (opsOf (cd121 [1,1,0])) [9]] ?_
   refine rSG 29 (.tmp 17) (.tmp 15) 11 (.agg (enc_weirref05_Fault (⟨a1.Line,a1.Col,a2⟩ : weirref05_Fault)).toArray) (enc_weirref05_Fault (⟨a1.Line,a1.Col,a2⟩ : weirref05_Fault)) ([.slice y7 a0v.L.length y8,.int .i64 a0v.At] ++ (enc_api_Token a0v.Last) ++ [.int .i64 a0v.Deep,.slice y9 a0v.C.length y10] ++ (enc_weirref05_Fault (⟨a1.Line,a1.Col,a2⟩ : weirref05_Fault))) hS12 (one_weirref05_Fault _) ?_
   intro w16 hS17
   refine sR 1 [] ?_
   have hS18:=hS17.pick1
   have hS19:=hS18.drop
   refine runs_end (fn:=Tryz.f121) (v:=.tuple #[]) Tryz.func121 (by kernel_rfl) ?_
   cases Option.some.inj hp15
   exact hR _ _ ⟨rfl,hS19⟩
  refine sR 3 [] ?_
  have hS22:=hS12.pick1
  have hS23:=hS22.drop
  refine runs_end (fn:=Tryz.f121) (v:=.tuple #[]) Tryz.func121 (by kernel_rfl) ?_
  cases Option.some.inj hp21
  exact hR _ _ ⟨rfl,hS23⟩

noncomputable def cd81 (p : List Nat) : Code := sub (bodyOf Tryz.f81) p
abbrev p81_7:=cd81 [1,1,1]
def weirref06_reader__node.f (a0v : weirref06_reader) (a1 : api_Node) : Option (Int × (List api_Node) × weirref05_Fault) :=
  (weirref06_reader__bad.f a0v >>= (fun t5 => (if t5 = true then some ((0,a0v.C,a0v.F)) else (if ((a0v.C.length : Int) == 1024) = true then (weirref06_reader__fail.f a0v a0v.Last 1 >>= (fun t24 => some ((0,a0v.C,t24)))) else (if (a0v.C.length + ([a1] : List api_Node).length) * 56 ≤ 140737488355328 then some (((IntKind.i64.wrap (((a0v.C ++ ([a1] : List api_Node)).length : Int) - 1)),(a0v.C ++ ([a1] : List api_Node)),a0v.F)) else none)))))
theorem weirref06_reader__node.ok {a0v : weirref06_reader} {a1 : api_Node} {ba0 : Nat} {y7 : Option Addr} {y8 : Nat} {y9 : Option Addr} {y10 : Nat} {q0 : Int} {q1 : List api_Node} {q2 : weirref05_Fault} (hp0 : weirref06_reader__node.f a0v a1 = some (q0,q1,q2)) (hS0 : St w0 Z (xblk ba0 122 ([.slice y7 a0v.L.length y8,.int .i64 a0v.At] ++ (enc_api_Token a0v.Last) ++ [.int .i64 a0v.Deep,.slice y9 a0v.C.length y10] ++ (enc_weirref05_Fault a0v.F))::xrow y9 y10 68 6 (a0v.C.flatMap enc_api_Node)::fs) w) (y11 : SlZ (flat enc_api_Token) 7 Z y7 y8 a0v.L) :
    Calls Tryz.prog 81 #[.pointer (some ⟨ba0,0,none⟩),.agg (enc_api_Node a1).toArray] w (fun e w' => ∃ (QA0 : Option Addr) (Qc0 : Nat),e = .returned (.int .i64 q0) ∧ St w0 Z (xrow QA0 Qc0 68 6 (q1.flatMap enc_api_Node)::xblk ba0 122 ([.slice y7 a0v.L.length y8,.int .i64 a0v.At] ++ (enc_api_Token a0v.Last) ++ [.int .i64 a0v.Deep,.slice QA0 q1.length Qc0] ++ (enc_weirref05_Fault q2))::fs) w'):=by
  refine calls_abs ?_; intro R hR
  unfold weirref06_reader__node.f at hp0
  refine calls_of_runs (fn:=Tryz.f81) (c:=cd81 []) Tryz.func81 (by kernel_rfl) (al:=[.pointer (some ⟨ba0,0,none⟩),.agg (enc_api_Node a1).toArray]) rfl (n:=33) rfl ?_
  refine sR 2 [.inRegion (opsOf (cd81 [0])) [0,1],.code (cd81 [1])] ?_
  refine r_box (c:=(cd81 [0])) (i:=0) (d:=(some 3)) (ty:=0) (x:=(.tmp 1)) (v:=.agg (enc_api_Node a1).toArray) (t:=68) (cs:=enc_api_Node a1) hS0 (by kernel_rfl) (by kernel_rfl) (by kernel_rfl) (by kernel_rfl) ?_
  intro b1 w2 hS3
  refine sR 6 [.inRegion (opsOf (cd81 [1,0,0])) [1],.code (cd81 [1,0,1]),.code (cd81 [1,1])] ?_
  obtain ⟨t5,hr6,hp7⟩:=bind_some' hp0
  have hS10:=hS3.pick2
  obtain ⟨Z11,hz12,hS13,hs14,hb15⟩:=hS10.lendrow len_api_Node (by omega)
  have hS16:=hS13.pick1
  refine rC (weirref06_reader__bad.ok hr6 hS16 (y11.up hz12) hs14) ?_
  rintro _ w17 ⟨rfl,hS18⟩
  refine ⟨_,rfl,?_⟩
  have hS19:=hb15 _ _ hS18
  refine sR 1 [.code (cd81 [1,0,1]),.code (cd81 [1,1])] ?_
  cases t5
  ·have hp20:=ite_f hp7 rfl
   refine sR 8 [.inRegion (opsOf (cd81 [1,1,0,0])) [3,4,5],.code (cd81 [1,1,0,1]),.code p81_7] ?_
   refine rL1 23 (.tmp 9) 10 (hS19.blk 1 rfl) ?_
   refine sI 2 [.inRegion (opsOf (cd81 [1,1,0,0])) [],.code (cd81 [1,1,0,1]),.code p81_7] 12 hp20 (fun hp23 => ?_) fun hp38 => ?_
   ·refine sR 8 [.inRegion (opsOf (cd81 [1,1,0,1,0,0])) [4,5],.code (cd81 [1,1,0,1,0,1]),.code p81_7] ?_
    refine rLa 75 (.tmp 16) (Cells.mid' (pre:=[.slice y7 a0v.L.length y8] ++ [.int .i64 a0v.At]) (cs:=enc_api_Token a0v.Last) (post:=[.int .i64 a0v.Deep] ++ [.slice y9 a0v.C.length y10] ++ (enc_weirref05_Fault a0v.F)) (off:=2) (hS19.blk 1 rfl) (by simp [len_api_Token,len_weirref05_Fault]) (by simp)) ?_
    obtain ⟨t24,hr25,hp26⟩:=bind_some' hp23
    obtain ⟨Z27,hz28,hS29,hs30,hb31⟩:=hS19.lendrow len_api_Node (by omega)
    refine rC (weirref06_reader__fail.ok hr25 hS29 (y11.up hz28) hs30) ?_
    rintro _ w32 ⟨rfl,hS33⟩
    refine ⟨_,rfl,?_⟩
    have hS34:=hb31 _ _ hS33
    refine sR 5 [.code (cd81 [1,1,0,1,0,1,1]),.code p81_7] ?_
    have hS35:=hS34.pick2
    have hS36:=hS35.drop
    refine rR (.int .i64 0) Tryz.func81 ?_
    cases Option.some.inj hp26
    exact hR _ _ ⟨y9,y10,rfl,hS36⟩
   refine sR 4 [.code (cd81 [1,1,1,0]),.code (cd81 [1,1,1,1])] ?_
   obtain ⟨g41,hp42⟩:=ite_some hp38
   refine r_drawnG (S:=Option (Nat × Option ((Option Addr × Nat) × Option Unit))) (rank:=(fun st => match st with | none => 0 | some (b39,none) => 1 | some (b39,some (x46,none)) => 2 | some (b39,some (x46,some x47)) => 3)) (C:=(fun st w' => match st with | none => St w0 Z (xrow y9 y10 68 6 (a0v.C.flatMap enc_api_Node)::xblk ba0 122 ([.slice y7 a0v.L.length y8,.int .i64 a0v.At] ++ (enc_api_Token a0v.Last) ++ [.int .i64 a0v.Deep,.slice y9 a0v.C.length y10] ++ (enc_weirref05_Fault a0v.F))::xblk b1 68 (enc_api_Node a1)::fs) w' | some (b39,none) => St w0 Z (xrow (some ⟨b39,0,none⟩) 1 68 6 (([a1] : List api_Node).flatMap enc_api_Node)::xrow y9 y10 68 6 (a0v.C.flatMap enc_api_Node)::xblk ba0 122 ([.slice y7 a0v.L.length y8,.int .i64 a0v.At] ++ (enc_api_Token a0v.Last) ++ [.int .i64 a0v.Deep,.slice y9 a0v.C.length y10] ++ (enc_weirref05_Fault a0v.F))::xblk b1 68 (enc_api_Node a1)::fs) w' | some (b39,some (x46,none)) => St w0 Z (xrow x46.1 x46.2 68 6 ((a0v.C ++ ([a1] : List api_Node)).flatMap enc_api_Node)::xrow (some ⟨b39,0,none⟩) 1 68 6 (([a1] : List api_Node).flatMap enc_api_Node)::xblk ba0 122 ([.slice y7 a0v.L.length y8,.int .i64 a0v.At] ++ (enc_api_Token a0v.Last) ++ [.int .i64 a0v.Deep,.slice y9 a0v.C.length y10] ++ (enc_weirref05_Fault a0v.F))::xblk b1 68 (enc_api_Node a1)::fs) w' | some (b39,some (x46,some x47)) => St w0 Z (xblk ba0 122 ([.slice y7 a0v.L.length y8,.int .i64 a0v.At] ++ (enc_api_Token a0v.Last) ++ [.int .i64 a0v.Deep,.slice x46.1 (a0v.C ++ ([a1] : List api_Node)).length x46.2] ++ (enc_weirref05_Fault a0v.F))::xrow x46.1 x46.2 68 6 ((a0v.C ++ ([a1] : List api_Node)).flatMap enc_api_Node)::xrow (some ⟨b39,0,none⟩) 1 68 6 (([a1] : List api_Node).flatMap enc_api_Node)::xblk b1 68 (enc_api_Node a1)::fs) w')) (v:=(fun st => match st with | none => [.pointer (some ⟨ba0,0,none⟩),.pointer (some ⟨ba0,0,none⟩),.pointer (some ⟨ba0,0,none⟩),.pointer (some ⟨ba0,10,none⟩),.slice y9 a0v.C.length y10,.agg (enc_api_Node a1).toArray,undef,undef,undef,undef,undef] | some (b39,none) => [.pointer (some ⟨ba0,0,none⟩),.pointer (some ⟨ba0,0,none⟩),.pointer (some ⟨ba0,0,none⟩),.pointer (some ⟨ba0,10,none⟩),.slice y9 a0v.C.length y10,.agg (enc_api_Node a1).toArray,.slice (some ⟨b39,0,none⟩) ([a1] : List api_Node).length 1,undef,undef,undef,undef] | some (b39,some (x46,none)) => [.pointer (some ⟨ba0,0,none⟩),.pointer (some ⟨ba0,0,none⟩),.pointer (some ⟨ba0,0,none⟩),.pointer (some ⟨ba0,10,none⟩),.slice y9 a0v.C.length y10,.agg (enc_api_Node a1).toArray,.slice (some ⟨b39,0,none⟩) ([a1] : List api_Node).length 1,.slice x46.1 (a0v.C ++ ([a1] : List api_Node)).length x46.2,.pointer (some ⟨ba0,0,none⟩),.pointer (some ⟨ba0,10,none⟩),undef] | some (b39,some (x46,some x47)) => [.pointer (some ⟨ba0,0,none⟩),.pointer (some ⟨ba0,0,none⟩),.pointer (some ⟨ba0,0,none⟩),.pointer (some ⟨ba0,10,none⟩),.slice y9 a0v.C.length y10,.agg (enc_api_Node a1).toArray,.slice (some ⟨b39,0,none⟩) ([a1] : List api_Node).length 1,.slice x46.1 (a0v.C ++ ([a1] : List api_Node)).length x46.2,.pointer (some ⟨ba0,0,none⟩),.pointer (some ⟨ba0,10,none⟩),undef])) (c:=(cd81 [1,1,1,0])) (id:=6) none 10 11 [6,7,10] [0,0,0,0,0,0,0,1,2,2,2] [2,2,2,2,1,0,1,2,3,2,3] [] (by kernel_rfl) (by kernel_rfl) (by kernel_rfl) (by kernel_rfl) (by kernel_rfl) (by kernel_rfl) (by kernel_rfl) (by kernel_rfl) (by kernel_rfl) (by kernel_rfl) rfl hS19.drew ?_ ?_ ?_ ?_
   ·intro st w hC
    rcases st with _ | ⟨b39,_ | ⟨x46,_ | x47⟩⟩
    ·exact nbl rfl
    ·exact nbl rfl
    ·exact nbl rfl
    ·exact nbl rfl
   ·intro i hi he st w hC hr hu
    match i,hi,he with
    | 0,_,_ =>
     rcases st with _ | ⟨b39,_ | ⟨x46,_ | x47⟩⟩
     ·dsimp only at hC
      exact dP (.pointer (some ⟨ba0,0,none⟩)) hC
     ·dsimp only at hC
      exact dP (.pointer (some ⟨ba0,0,none⟩)) hC
     ·dsimp only at hC
      exact dP (.pointer (some ⟨ba0,0,none⟩)) hC
     ·exact absurd hu (nle rfl)
    | 1,_,_ =>
     rcases st with _ | ⟨b39,_ | ⟨x46,_ | x47⟩⟩
     ·dsimp only at hC
      exact dP (.pointer (some ⟨ba0,0,none⟩)) hC
     ·dsimp only at hC
      exact dP (.pointer (some ⟨ba0,0,none⟩)) hC
     ·dsimp only at hC
      exact dP (.pointer (some ⟨ba0,0,none⟩)) hC
     ·exact absurd hu (nle rfl)
    | 2,_,_ =>
     rcases st with _ | ⟨b39,_ | ⟨x46,_ | x47⟩⟩
     ·dsimp only at hC
      exact dP (.pointer (some ⟨ba0,0,none⟩)) hC
     ·dsimp only at hC
      exact dP (.pointer (some ⟨ba0,0,none⟩)) hC
     ·dsimp only at hC
      exact dP (.pointer (some ⟨ba0,0,none⟩)) hC
     ·exact absurd hu (nle rfl)
    | 3,_,_ =>
     rcases st with _ | ⟨b39,_ | ⟨x46,_ | x47⟩⟩
     ·dsimp only at hC
      exact dP (.pointer (some ⟨ba0,10,none⟩)) hC
     ·dsimp only at hC
      exact dP (.pointer (some ⟨ba0,10,none⟩)) hC
     ·dsimp only at hC
      exact dP (.pointer (some ⟨ba0,10,none⟩)) hC
     ·exact absurd hu (nle rfl)
    | 4,_,_ =>
     rcases st with _ | ⟨b39,_ | ⟨x46,_ | x47⟩⟩
     ·dsimp only at hC
      exact does_run (x_load (t:=23) (x:=(.tmp 22)) (p:=⟨ba0,10,none⟩) (v:=.slice y9 a0v.C.length y10) (by kernel_rfl) (loads_at 10 (hC.blk 1 rfl) (by kernel_rfl) (by kernel_rfl)) (by kernel_rfl)) rfl hC
     ·dsimp only at hC
      exact does_run (x_load (t:=23) (x:=(.tmp 22)) (p:=⟨ba0,10,none⟩) (v:=.slice y9 a0v.C.length y10) (by kernel_rfl) (loads_at 10 (hC.blk 2 rfl) (by kernel_rfl) (by kernel_rfl)) (by kernel_rfl)) rfl hC
     ·exact absurd hu (nle rfl)
     ·exact absurd hu (nle rfl)
    | 5,_,_ =>
     rcases st with _ | ⟨b39,_ | ⟨x46,_ | x47⟩⟩
     ·dsimp only at hC
      exact does_run (x_load (t:=68) (x:=(.tmp 3)) (p:=⟨b1,0,none⟩) (v:=.agg (enc_api_Node a1).toArray) (by kernel_rfl) (loads_agg (hC.blk 2 rfl) (by kernel_rfl) (by kernel_rfl)) (by kernel_rfl)) rfl hC
     ·exact absurd hu (nle rfl)
     ·exact absurd hu (nle rfl)
     ·exact absurd hu (nle rfl)
    | 6,_,he => exact absurd he (by decide)
    | 7,_,he => exact absurd he (by decide)
    | 8,_,_ =>
     rcases st with _ | ⟨b39,_ | ⟨x46,_ | x47⟩⟩
     ·exact absurd hr (nle rfl)
     ·exact absurd hr (nle rfl)
     ·dsimp only at hC
      exact dP (.pointer (some ⟨ba0,0,none⟩)) hC
     ·dsimp only at hC
      exact dP (.pointer (some ⟨ba0,0,none⟩)) hC
    | 9,_,_ =>
     rcases st with _ | ⟨b39,_ | ⟨x46,_ | x47⟩⟩
     ·exact absurd hr (nle rfl)
     ·exact absurd hr (nle rfl)
     ·dsimp only at hC
      exact dP (.pointer (some ⟨ba0,10,none⟩)) hC
     ·exact absurd hu (nle rfl)
    | 10,_,he => exact absurd he (by decide)
    | i + 11,hi,_ => exact absurd hi (by omega)
   ·intro k hk st w hC hr
    match k,hk with
    | 0,_ =>
     rcases st with _ | ⟨b39,_ | ⟨x46,_ | x47⟩⟩
     ·dsimp only at hC
      refine does_lit (t:=23) (e:=68) (sz:=6) (n:=1) (parts:=#[(0,(.tmp 24))]) (vs:=[(0,.agg (enc_api_Node a1).toArray)]) (z:=zeroOf Tryz.prog 68) (cs':=([a1] : List api_Node).flatMap enc_api_Node) hC (by kernel_rfl) (by kernel_rfl) (by kernel_rfl) (by kernel_rfl) (by decide) (by decide) (by kernel_rfl) rfl (Parts.cons (c:=enc_api_Node a1) (by kernel_rfl) (len_api_Node _) Parts.nil) rfl ?_
      intro b39 w2 h2
      refine ⟨some (b39,none),rfl,?_,.inr rfl,h2⟩
      intro j hj
      match j,hj with
      | 0,_ => exact rfl
      | 1,_ => exact rfl
      | 2,_ => exact rfl
      | 3,_ => exact rfl
      | 4,_ => exact rfl
      | 5,_ => exact rfl
      | 6,hj => exact absurd hj (by decide)
      | 7,hj => exact absurd hj (by decide)
      | 8,hj => exact absurd hj (by decide)
      | 9,hj => exact absurd hj (by decide)
      | 10,hj => exact absurd hj (by decide)
      | j + 11,_ => exact rfl
     ·exact absurd hr (Nat.ne_of_beq_eq_false rfl)
     ·exact absurd hr (Nat.ne_of_beq_eq_false rfl)
     ·exact absurd hr (Nat.ne_of_beq_eq_false rfl)
    | 1,_ =>
     rcases st with _ | ⟨b39,_ | ⟨x46,_ | x47⟩⟩
     ·exact absurd hr (Nat.ne_of_beq_eq_false rfl)
     ·dsimp only at hC
      have hC:=hC.pick1
      refine does_append (enc:=enc_api_Node) (e:=68) (u:=68) (t:=23) (t2:=23) (sz:=6) (cp:=y10) (A:=y9) (bytes:=56) (xs:=a0v.C) (ys:=([a1] : List api_Node)) (s:=(.tmp 23)) (x:=(.tmp 25)) (xv:=.slice (some ⟨b39,0,none⟩) ([a1] : List api_Node).length 1) (info:=infoOf Tryz.prog 68) (z:=zeroOf Tryz.prog 68) (ycs:=([a1] : List api_Node).flatMap enc_api_Node) hC (by kernel_rfl) (by kernel_rfl) (by kernel_rfl) (by kernel_rfl) (.inl (by kernel_rfl)) (by kernel_rfl) (by kernel_rfl) (by kernel_rfl) (by kernel_rfl) (by kernel_rfl) (by omega) len_api_Node one_api_Node (src_row (hC.row 1 rfl) (by omega) len_api_Node) rfl g41 (by omega) ?_
      intro A43 c44 w2 h2
      refine ⟨some (b39,some ((A43,c44),none)),rfl,?_,.inr rfl,h2⟩
      intro j hj
      match j,hj with
      | 0,_ => exact rfl
      | 1,_ => exact rfl
      | 2,_ => exact rfl
      | 3,_ => exact rfl
      | 4,_ => exact rfl
      | 5,_ => exact rfl
      | 6,_ => exact rfl
      | 7,hj => exact absurd hj (by decide)
      | 8,hj => exact absurd hj (by decide)
      | 9,hj => exact absurd hj (by decide)
      | 10,hj => exact absurd hj (by decide)
      | j + 11,_ => exact rfl
     ·exact absurd hr (Nat.ne_of_beq_eq_false rfl)
     ·exact absurd hr (Nat.ne_of_beq_eq_false rfl)
    | 2,_ =>
     rcases st with _ | ⟨b39,_ | ⟨x46,_ | x47⟩⟩
     ·exact absurd hr (Nat.ne_of_beq_eq_false rfl)
     ·exact absurd hr (Nat.ne_of_beq_eq_false rfl)
     ·dsimp only at hC
      have hC:=hC.pick2
      refine dS 23 (.tmp 28) (.tmp 26) 10 (.slice x46.1 (a0v.C ++ ([a1] : List api_Node)).length x46.2) [.slice x46.1 (a0v.C ++ ([a1] : List api_Node)).length x46.2] ([.slice y7 a0v.L.length y8,.int .i64 a0v.At] ++ (enc_api_Token a0v.Last) ++ [.int .i64 a0v.Deep,.slice x46.1 (a0v.C ++ ([a1] : List api_Node)).length x46.2] ++ (enc_weirref05_Fault a0v.F)) hC ?_
      intro w2 h2
      refine ⟨some (b39,some (x46,some ())),rfl,?_,.inl rfl,h2⟩
      intro j hj
      match j,hj with
      | 0,_ => exact rfl
      | 1,_ => exact rfl
      | 2,_ => exact rfl
      | 3,_ => exact rfl
      | 4,_ => exact rfl
      | 5,_ => exact rfl
      | 6,_ => exact rfl
      | 7,_ => exact rfl
      | 8,_ => exact rfl
      | 9,_ => exact rfl
      | 10,hj => exact absurd hj (by decide)
      | j + 11,_ => exact rfl
     ·exact absurd hr (Nat.ne_of_beq_eq_false rfl)
    | k + 3,hk => exact absurd hk (by simp)
   intro st51 w48 hS49 hr50
   rcases st51 with _ | ⟨b39,_ | ⟨x46,_ | x47⟩⟩
   ·exact absurd hr50 (nle rfl)
   ·exact absurd hr50 (nle rfl)
   ·exact absurd hr50 (nle rfl)
   replace hS49 : St w0 Z (xblk ba0 122 ([.slice y7 a0v.L.length y8,.int .i64 a0v.At] ++ (enc_api_Token a0v.Last) ++ [.int .i64 a0v.Deep,.slice x46.1 (a0v.C ++ ([a1] : List api_Node)).length x46.2] ++ (enc_weirref05_Fault a0v.F))::xrow x46.1 x46.2 68 6 ((a0v.C ++ ([a1] : List api_Node)).flatMap enc_api_Node)::xrow (some ⟨b39,0,none⟩) 1 68 6 (([a1] : List api_Node).flatMap enc_api_Node)::xblk b1 68 (enc_api_Node a1)::fs) w48:=hS49
   refine sR 5 [iR (cd81 [1,1,1,1,0]) 3 4,.code (cd81 [1,1,1,1,1])] ?_
   refine rL1 23 (.tmp 31) 10 (hS49.blk 0 rfl) ?_
   refine sR 4 [.code (cd81 [1,1,1,1,1])] ?_
   have hS52:=hS49.pick2
   have hS53:=hS52.drop
   have hS54:=hS53.pick2
   have hS55:=hS54.drop
   have hS56:=hS55.pick1
   refine rR (.int .i64 (IntKind.i64.wrap (((a0v.C ++ ([a1] : List api_Node)).length : Int) - 1))) Tryz.func81 ?_
   cases Option.some.inj hp42
   exact hR _ _ ⟨x46.1,x46.2,rfl,hS56⟩
  have hp58:=ite_t hp7 rfl
  refine sR 5 [.code (cd81 [1,0,1,0,1]),.code (cd81 [1,1])] ?_
  have hS59:=hS19.pick2
  have hS60:=hS59.drop
  refine rR (.int .i64 0) Tryz.func81 ?_
  cases Option.some.inj hp58
  exact hR _ _ ⟨y9,y10,rfl,hS60⟩

noncomputable def cd151 (p : List Nat) : Code := sub (bodyOf Tryz.f151) p
abbrev p151_3:=cd151 [0,1,0,0]
def weirref06_reader__opens.f (a0v : weirref06_reader) : Option (Int × api_Token × Int × weirref05_Fault) :=
  (if (decide (a0v.Deep ≥ 64)) = true then (if 0 ≤ a0v.At ∧ a0v.At < (a0v.L.length : Int) then (weirref06_reader__fail.f a0v (gt a0v.L a0v.At) 2 >>= (fun t12 => some ((a0v.At,a0v.Last,a0v.Deep,t12)))) else none) else (weirref06_reader__take.f (⟨a0v.L,a0v.At,a0v.Last,(IntKind.i64.wrap (a0v.Deep + 1)),a0v.C,a0v.F⟩ : weirref06_reader) >>= (fun (t21,t22,t23) => some ((t22,t23,(IntKind.i64.wrap (a0v.Deep + 1)),a0v.F)))))
theorem weirref06_reader__opens.ok {a0v : weirref06_reader} {ba0 : Nat} {y7 : Option Addr} {y8 : Nat} {y9 : Option Addr} {y10 : Nat} {q0 : Int} {q1 : api_Token} {q2 : Int} {q3 : weirref05_Fault} (hp0 : weirref06_reader__opens.f a0v = some (q0,q1,q2,q3)) (hS0 : St w0 Z (xblk ba0 122 ([.slice y7 a0v.L.length y8,.int .i64 a0v.At] ++ (enc_api_Token a0v.Last) ++ [.int .i64 a0v.Deep,.slice y9 a0v.C.length y10] ++ (enc_weirref05_Fault a0v.F))::fs) w) (y11 : SlZ (flat enc_api_Token) 7 Z y7 y8 a0v.L) (y12 : SlZ (flat enc_api_Node) 6 Z y9 y10 a0v.C) :
    Calls Tryz.prog 151 #[.pointer (some ⟨ba0,0,none⟩)] w (fun e w' => e = .returned (.tuple #[]) ∧ St w0 Z (xblk ba0 122 ([.slice y7 a0v.L.length y8,.int .i64 q0] ++ (enc_api_Token q1) ++ [.int .i64 q2,.slice y9 a0v.C.length y10] ++ (enc_weirref05_Fault q3))::fs) w'):=by
  refine calls_abs ?_; intro R hR
  unfold weirref06_reader__opens.f at hp0
  refine calls_of_runs (fn:=Tryz.f151) (c:=cd151 []) Tryz.func151 (by kernel_rfl) (al:=[.pointer (some ⟨ba0,0,none⟩)]) rfl (n:=27) rfl ?_
  refine sR 6 [.inRegion (opsOf (cd151 [0,0])) [3,4],.code (cd151 [0,1]),.code (cd151 [1])] ?_
  refine rL1 3 (.tmp 4) 9 (hS0.blk 0 rfl) ?_
  refine sI 1 [.inRegion (opsOf (cd151 [0,0])) [],.code (cd151 [0,1]),.code (cd151 [1])] 6 hp0 (fun hp3 => ?_) fun hp18 => ?_
  ·refine sR 3 [.code p151_3,.code (cd151 [0,1,0,1]),.code (cd151 [1])] ?_
   refine r_drawn3 (C:=St w0 Z (xblk ba0 122 ([.slice y7 a0v.L.length y8,.int .i64 a0v.At] ++ (enc_api_Token a0v.Last) ++ [.int .i64 a0v.Deep,.slice y9 a0v.C.length y10] ++ (enc_weirref05_Fault a0v.F))::fs)) (c:=p151_3) (id:=1) (by kernel_rfl) (by kernel_rfl) 11 (Nat.le_of_ble_eq_true (by kernel_rfl)) (by kernel_rfl) (by kernel_rfl) (by kernel_rfl) (is:=[0,1,2,3,4,5,6,7,8,9,10]) (rest:=[11]) (by kernel_rfl) (by kernel_rfl) hS0.drew ?_
   refine qR 4 (rg 4 7) ?_
   refine qL1 53 (.tmp 10) 0 (fun w hC => (hC.blk 0 rfl)) ?_
   refine qR 3 [8,9,10] ?_
   refine qL1 3 (.tmp 14) 1 (fun w hC => (hC.blk 0 rfl)) ?_
   obtain ⟨g4,hp5⟩:=ite_some hp3
   obtain ⟨b6,p7,hA8,hc9⟩:=y11.atF g4.1 g4.2
   refine q_indexAddr (c:=(hd p151_3 11)) (i:=9) (d:=(some 16)) (ty:=0) (t:=53) (e:=75) (n:=a0v.L.length) (cp:=y8) (sz:=7) (kk:=.i64) (x:=(.tmp 11)) (y:=(.tmp 15)) (b:=b6) (o':=p7) (j:=a0v.At) (by kernel_rfl) (by kernel_rfl) (slv (by kernel_rfl) hA8) (by kernel_rfl) (by kernel_rfl) (by kernel_rfl) g4.1 g4.2 ?_
   refine qLa 75 (.tmp 16) (fun w hC => (hc9.cells hC)) ?_
   refine Qs.nil ?_
   intro w10 hS11
   obtain ⟨t12,hr13,hp14⟩:=bind_some' hp5
   refine rC (weirref06_reader__fail.ok hr13 hS11 y11 y12) ?_
   rintro _ w15 ⟨rfl,hS16⟩
   refine ⟨_,rfl,?_⟩
   refine sR 1 [.code (cd151 [0,1,0,1]),.code (cd151 [1])] ?_
   refine rR (.tuple #[]) Tryz.func151 ?_
   cases Option.some.inj hp14
   exact hR _ _ ⟨rfl,hS16⟩
  refine sR 8 [iR (cd151 [1,0]) 3 5,.code (cd151 [1,1])] ?_
  refine rL1 3 (.tmp 21) 9 (hS0.blk 0 rfl) ?_
  refine sR 3 [.inRegion (opsOf (cd151 [1,0])) [7],.code (cd151 [1,1])] ?_
  refine rS 3 (.tmp 25) (.tmp 23) 9 (.int .i64 (IntKind.i64.wrap (a0v.Deep + 1))) [.int .i64 (IntKind.i64.wrap (a0v.Deep + 1))] ([.slice y7 a0v.L.length y8,.int .i64 a0v.At] ++ (enc_api_Token a0v.Last) ++ [.int .i64 (IntKind.i64.wrap (a0v.Deep + 1)),.slice y9 a0v.C.length y10] ++ (enc_weirref05_Fault a0v.F)) hS0 ?_
  intro w19 hS20
  refine sR 3 [.inRegion (opsOf (cd151 [1,1])) [1]] ?_
  obtain ⟨⟨t21,t22,t23⟩,hr24,hp25⟩:=bind_some' hp18
  try dsimp only at hp25
  refine rC (weirref06_reader__take.ok hr24 hS20 y11 y12) ?_
  rintro _ w26 ⟨rfl,hS27⟩
  refine ⟨_,rfl,?_⟩
  refine sR 1 [] ?_
  refine runs_end (fn:=Tryz.f151) (v:=.tuple #[]) Tryz.func151 (by kernel_rfl) ?_
  cases Option.some.inj hp25
  exact hR _ _ ⟨rfl,hS27⟩

noncomputable def cd173 (p : List Nat) : Code := sub (bodyOf Tryz.f173) p
abbrev p173_10:=cd173 [1,1,0,1,0,0,1,0,0,0,0]
abbrev p173_12:=cd173 [1,1,0,1,0,0,1,0,0,1]
abbrev p173_14:=cd173 [1,1,0,1,0,0,1,0,0,0,1,0,1]
abbrev td311:List Item:=[.code (cd173 [1,1,1])]
abbrev td312:List Item:=.inBlock 0::td311
abbrev td313:List Item:=.inLoop (cd173 [1,1,0,1,0,0])::td312
abbrev td314:List Item:=.code (cd173 [1,1,0,1,0,0])::td313
abbrev td315:List Item:=.code (cd173 [1,1,0,1,0,0,1,1])::td313
abbrev td316:List Item:=.inBlock 1::td315
abbrev td317:List Item:=.code p173_12::td316
abbrev td318:List Item:=.code (cd173 [1,1,0,1,0,0,1,0,0,0,1])::td317
abbrev td319:List Item:=.code p173_14::td317
def weirref06_thread.l0 (a0 : ByteArray) (t17 t18 : Int) : Option (Sum Int Int) :=
  (if (decide (t18 < (a0.size : Int))) = true then (if 0 ≤ t18 ∧ t18 < (a0.size : Int) then (if (decide ((byt a0 t18) < 48)) = true then some (.inr ((-1))) else (if 0 ≤ t18 ∧ t18 < (a0.size : Int) then (if (decide ((byt a0 t18) > 57)) = true then some (.inr ((-1))) else (if (decide (t18 > 3)) = true then some (.inr ((-1))) else (if 0 ≤ t18 ∧ t18 < (a0.size : Int) then (weirref06_thread.l0 a0 (IntKind.i64.wrap ((IntKind.i64.wrap (10 * t17)) + (IntKind.i64.wrap (IntKind.u8.wrap ((byt a0 t18) - 48))))) (IntKind.i64.wrap (t18 + 1))) else none))) else none)) else none) else some (.inl t17))
 partial_fixpoint
def weirref06_thread.f (a0 : ByteArray) : Option Int :=
  (weirref06_thread.l0 a0 0 0 >>= (fun | .inl t4 => (if ((a0.size : Int) == 0) = true then some ((-1)) else some (t4)) | .inr e => some e))
theorem weirref06_thread.ok {a0 : ByteArray} {q0 : Int} (hp0 : weirref06_thread.f a0 = some q0) (hS0 : St w0 Z (fs) w) :
    Calls Tryz.prog 173 #[.string a0] w (fun e w' => e = .returned (.int .i64 q0) ∧ St w0 Z (fs) w'):=by
  refine calls_abs ?_; intro R hR
  unfold weirref06_thread.f at hp0
  refine calls_of_runs (fn:=Tryz.f173) (c:=cd173 []) Tryz.func173 (by kernel_rfl) (al:=[.string a0]) rfl (n:=36) rfl ?_
  refine sR 15 td314 ?_
  obtain ⟨v1,hv2,hp3⟩:=bind_some' hp0
  have hq7 : ∀ x,Sum.inr x = v1 → x = q0:=by intro x hx; subst hx; simpa using hp3
  have J8 : ∀ (t4 : Int) (he10 : Sum.inl t4 = v1) (l9 : List Value) (w5 : World) (hS6 : St w0 Z (fs) w5),Runs Tryz.prog (fx 173) td311 (fill (mk 37 [(0,.string a0),(3,.int .i64 t4)]) l9) w5 R:=by
   intro t4 he10 l9 w5 hS6
   subst he10
   try dsimp only at hp3
   refine sI 6 [.inRegion (opsOf (cd173 [1,1,1,0,0])) [],.code (cd173 [1,1,1,0,1]),.code (cd173 [1,1,1,1])] 35 hp3 (fun hp13 => ?_) fun hp15 => ?_
   ·refine sR 6 [.code (cd173 [1,1,1,0,1,0,1]),.code (cd173 [1,1,1,1])] ?_
    refine rR (.int .i64 (-1)) Tryz.func173 ?_
    cases Option.some.inj hp13
    exact hR _ _ ⟨rfl,hS6⟩
   refine sR 8 [.code (cd173 [1,1,1,1,1])] ?_
   refine rR (.int .i64 t4) Tryz.func173 ?_
   cases Option.some.inj hp15
   exact hR _ _ ⟨rfl,hS6⟩
  have L27 : ∀ (t17 t18 : Int) (e22 : Sum Int Int),weirref06_thread.l0 a0 t17 t18 = some e22 → e22 = v1 → ∀ (l21 : List Value) (w19 : World) (hS20 : St w0 Z (fs) w19),Runs Tryz.prog (fx 173) td314 (fill (mk 37 [(0,.string a0),(3,.int .i64 t17),(4,.int .i64 t18)]) l21) w19 R:=by
   refine weirref06_thread.l0.partial_correctness a0 (fun t17 t18 e22 => e22 = v1 → ∀ (l21 : List Value) (w19 : World) (hS20 : St w0 Z (fs) w19),Runs Tryz.prog (fx 173) td314 (fill (mk 37 [(0,.string a0),(3,.int .i64 t17),(4,.int .i64 t18)]) l21) w19 R) ?_
   intro rec26 ih25 t17 t18 e22 hb24 he23 l21 w19 hS20
   have hq28 : ∀ x,Sum.inr x = e22 → x = q0:=fun x hx => hq7 x (hx.trans he23)
   refine sI 7 (.inRegion (opsOf (cd173 [1,1,0,1,0,0,0,0])) []::.code (cd173 [1,1,0,1,0,0,0,1])::.code (cd173 [1,1,0,1,0,0,1])::td313) 8 hb24 (fun hp31 => ?_) fun hp53 => ?_
   ·refine sR 10 (iR p173_10 2 12::td318) ?_
    obtain ⟨g32,hp33⟩:=ite_some hp31
    refine rV (.index 9 (.tmp 11) (.tmp 12)) (.int .u8 (byt a0 t18)) (fun o ho _ => x_indexStr (kk:=.i64) (by kernel_rfl) (by kernel_rfl) (by kernel_rfl) g32.1 g32.2 ho) ?_
    refine sI 1 (iR p173_10 4 10::td318) 14 hp33 (fun hp36 => ?_) fun hp38 => ?_
    ·refine sR 16 td319 ?_
     refine r_isret (c:=p173_14) (by kernel_rfl) ?_
     refine rR (.int .i64 (-1)) Tryz.func173 ?_
     cases hq28 _ (Option.some.inj hp36)
     exact hR _ _ ⟨rfl,hS20⟩
    refine sR 3 (iR p173_10 7 7::td318) ?_
    obtain ⟨g39,hp40⟩:=ite_some hp38
    refine rV (.index 9 (.tmp 16) (.tmp 17)) (.int .u8 (byt a0 t18)) (fun o ho _ => x_indexStr (kk:=.i64) (by kernel_rfl) (by kernel_rfl) (by kernel_rfl) g39.1 g39.2 ho) ?_
    refine sI 1 (iR p173_10 9 5::td318) 19 hp40 (fun hp43 => ?_) fun hp45 => ?_
    ·refine sR 11 td319 ?_
     refine r_isret (c:=p173_14) (by kernel_rfl) ?_
     refine rR (.int .i64 (-1)) Tryz.func173 ?_
     cases hq28 _ (Option.some.inj hp43)
     exact hR _ _ ⟨rfl,hS20⟩
    refine sI 4 (.inRegion (opsOf p173_10) [13]::td318) 23 hp45 (fun hp48 => ?_) fun hp50 => ?_
    ·refine sR 7 td319 ?_
     refine r_isret (c:=p173_14) (by kernel_rfl) ?_
     refine rR (.int .i64 (-1)) Tryz.func173 ?_
     cases hq28 _ (Option.some.inj hp48)
     exact hR _ _ ⟨rfl,hS20⟩
    refine sR 9 (iR p173_12 4 5::td316) ?_
    obtain ⟨g51,hp52⟩:=ite_some hp50
    refine rV (.index 9 (.tmp 27) (.tmp 28)) (.int .u8 (byt a0 t18)) (fun o ho _ => x_indexStr (kk:=.i64) (by kernel_rfl) (by kernel_rfl) (by kernel_rfl) g51.1 g51.2 ho) ?_
    refine sR 11 td313 ?_
    refine sR 1 td314 ?_
    exact rF _ (ih25 (IntKind.i64.wrap ((IntKind.i64.wrap (10 * t17)) + (IntKind.i64.wrap (IntKind.u8.wrap ((byt a0 t18) - 48))))) (IntKind.i64.wrap (t18 + 1)) _ hp52 he23 _ _ hS20)
   refine sR 3 td311 ?_
   exact rF _ (J8 t17 ((Option.some.inj hp53).trans he23) _ _ hS20)
  exact rF _ (L27 0 0 _ hv2 rfl _ _ hS0)

noncomputable def cd171 (p : List Nat) : Code := sub (bodyOf Tryz.f171) p
abbrev p171_7:=cd171 [1,1,1]
abbrev p171_8:=cd171 [1,1,0,1,0]
abbrev p171_9:=cd171 [1,0,1,0]
abbrev td320:List Item:=[.code (cd171 [1,1])]
def weirref06_reader__syntax.f (a0v : weirref06_reader) : Option weirref05_Fault :=
  (((if (decide ((a0v.L.length : Int) > 0)) = true then (if 0 ≤ (IntKind.i64.wrap ((a0v.L.length : Int) - 1)) ∧ (IntKind.i64.wrap ((a0v.L.length : Int) - 1)) < (a0v.L.length : Int) then some ((gt a0v.L (IntKind.i64.wrap ((a0v.L.length : Int) - 1)))) else none) else some ((⟨0,(⟨#[]⟩ : ByteArray),0,0,0,0,0⟩ : api_Token))) : Option api_Token) >>= (fun t10 => (if (decide (a0v.At < (a0v.L.length : Int))) = true then (if 0 ≤ a0v.At ∧ a0v.At < (a0v.L.length : Int) then (weirref06_reader__fail.f a0v (gt a0v.L a0v.At) 70 >>= (fun t32 => some (t32))) else none) else (weirref06_reader__fail.f a0v t10 70 >>= (fun t44 => some (t44))))))
theorem weirref06_reader__syntax.ok {a0v : weirref06_reader} {ba0 : Nat} {y7 : Option Addr} {y8 : Nat} {y9 : Option Addr} {y10 : Nat} {q0 : weirref05_Fault} (hp0 : weirref06_reader__syntax.f a0v = some q0) (hS0 : St w0 Z (xblk ba0 122 ([.slice y7 a0v.L.length y8,.int .i64 a0v.At] ++ (enc_api_Token a0v.Last) ++ [.int .i64 a0v.Deep,.slice y9 a0v.C.length y10] ++ (enc_weirref05_Fault a0v.F))::fs) w) (y11 : SlZ (flat enc_api_Token) 7 Z y7 y8 a0v.L) (y12 : SlZ (flat enc_api_Node) 6 Z y9 y10 a0v.C) :
    Calls Tryz.prog 171 #[.pointer (some ⟨ba0,0,none⟩)] w (fun e w' => e = .returned (.tuple #[]) ∧ St w0 Z (xblk ba0 122 ([.slice y7 a0v.L.length y8,.int .i64 a0v.At] ++ (enc_api_Token a0v.Last) ++ [.int .i64 a0v.Deep,.slice y9 a0v.C.length y10] ++ (enc_weirref05_Fault q0))::fs) w'):=by
  refine calls_abs ?_; intro R hR
  unfold weirref06_reader__syntax.f at hp0
  refine calls_of_runs (fn:=Tryz.f171) (c:=cd171 []) Tryz.func171 (by kernel_rfl) (al:=[.pointer (some ⟨ba0,0,none⟩)]) rfl (n:=44) rfl ?_
  refine sR 3 [.inRegion (opsOf (cd171 [0])) [1,2],.code (cd171 [1])] ?_
  refine rA 75 (.agg (enc_api_Token (⟨0,(⟨#[]⟩ : ByteArray),0,0,0,0,0⟩ : api_Token)).toArray) (enc_api_Token (⟨0,(⟨#[]⟩ : ByteArray),0,0,0,0,0⟩ : api_Token)) hS0 ?_
  intro b1 w2 hS3
  refine rSA 75 (.tmp 2) (.tmp 3) (enc_api_Token (⟨0,(⟨#[]⟩ : ByteArray),0,0,0,0,0⟩ : api_Token)) hS3 (one_api_Token _) ?_
  intro w5 hS6
  refine sR 7 (.inRegion (opsOf (cd171 [1,0,0])) [3,4,5]::.code (cd171 [1,0,1])::td320) ?_
  refine rL1 53 (.tmp 6) 0 (hS6.blk 1 rfl) ?_
  obtain ⟨v7,hv8,hp9⟩:=bind_some' hp0
  have J13 : ∀ (t10 : api_Token) (he15 : t10 = v7) (l14 : List Value) (w11 : World) (hS12 : St w0 Z (xblk ba0 122 ([.slice y7 a0v.L.length y8,.int .i64 a0v.At] ++ (enc_api_Token a0v.Last) ++ [.int .i64 a0v.Deep,.slice y9 a0v.C.length y10] ++ (enc_weirref05_Fault a0v.F))::xblk b1 75 (enc_api_Token t10)::fs) w11),Runs Tryz.prog (fx 171) td320 (fill (mk 45 [(0,.pointer (some ⟨ba0,0,none⟩)),(2,.pointer (some ⟨b1,0,none⟩))]) l14) w11 R:=by
   intro t10 he15 l14 w11 hS12
   subst he15
   try dsimp only at hp9
   refine sR 2 [.code (cd171 [1,1,0,0]),.code (cd171 [1,1,0,1]),.code p171_7] ?_
   refine r_quiet hS12 (c:=(cd171 [1,1,0,0])) (id:=3) (by kernel_rfl) (by kernel_rfl) (by kernel_rfl) (is:=[0,1,2,3,4,5,6,7,8,9]) (by kernel_rfl) ?_
   refine qR 3 (rg 3 7) ?_
   refine qL1 3 (.tmp 24) 1 (fun w hC => (hC.blk 0 rfl)) ?_
   refine qR 3 [7,8,9] ?_
   refine qL1 53 (.tmp 28) 0 (fun w hC => (hC.blk 0 rfl)) ?_
   refine qI 2 [] 31 hp9 (fun hp18 => ?_) fun hp41 => ?_
   ·refine Qs.nil ?_
    intro w19 hS20
    refine sR 1 [.code p171_8,.code p171_7] ?_
    refine r_drawn3 (C:=St w0 Z (xblk ba0 122 ([.slice y7 a0v.L.length y8,.int .i64 a0v.At] ++ (enc_api_Token a0v.Last) ++ [.int .i64 a0v.Deep,.slice y9 a0v.C.length y10] ++ (enc_weirref05_Fault a0v.F))::xblk b1 75 (enc_api_Token t10)::fs)) (c:=p171_8) (id:=4) (by kernel_rfl) (by kernel_rfl) 10 (Nat.le_of_ble_eq_true (by kernel_rfl)) (by kernel_rfl) (by kernel_rfl) (by kernel_rfl) (is:=[0,1,2,3,4,5,6,7,8,9]) (rest:=[10]) (by kernel_rfl) (by kernel_rfl) hS20.drew ?_
    refine qR 3 (rg 3 7) ?_
    refine qL1 53 (.tmp 34) 0 (fun w hC => (hC.blk 0 rfl)) ?_
    refine qR 3 [7,8,9] ?_
    refine qL1 3 (.tmp 38) 1 (fun w hC => (hC.blk 0 rfl)) ?_
    obtain ⟨g21,hp22⟩:=ite_some hp18
    obtain ⟨b23,p24,hA25,hc26⟩:=y11.atF g21.1 g21.2
    refine q_indexAddr (c:=(hd p171_8 10)) (i:=8) (d:=(some 40)) (ty:=0) (t:=53) (e:=75) (n:=a0v.L.length) (cp:=y8) (sz:=7) (kk:=.i64) (x:=(.tmp 35)) (y:=(.tmp 39)) (b:=b23) (o':=p24) (j:=a0v.At) (by kernel_rfl) (by kernel_rfl) (slv (by kernel_rfl) hA25) (by kernel_rfl) (by kernel_rfl) (by kernel_rfl) g21.1 g21.2 ?_
    refine qLa 75 (.tmp 40) (fun w hC => (hc26.cells hC)) ?_
    refine Qs.nil ?_
    intro w27 hS28
    have hS29:=hS28.pick1
    refine rSA 75 (.tmp 2) (.tmp 41) (enc_api_Token (gt a0v.L a0v.At)) hS29 (one_api_Token _) ?_
    intro w30 hS31
    refine sR 3 [.inRegion (opsOf p171_7) [1,2]] ?_
    refine rLa 75 (.tmp 2) (hS31.blk 0 rfl) ?_
    obtain ⟨t32,hr33,hp34⟩:=bind_some' hp22
    have hS35:=hS31.pick1
    refine rC (weirref06_reader__fail.ok hr33 hS35 y11 y12) ?_
    rintro _ w36 ⟨rfl,hS37⟩
    refine ⟨_,rfl,?_⟩
    refine sR 1 [] ?_
    have hS38:=hS37.pick1
    have hS39:=hS38.drop
    refine runs_end (fn:=Tryz.f171) (v:=.tuple #[]) Tryz.func171 (by kernel_rfl) ?_
    cases Option.some.inj hp34
    exact hR _ _ ⟨rfl,hS39⟩
   refine Qs.nil ?_
   intro w42 hS43
   refine sR 4 [.inRegion (opsOf p171_7) [1,2]] ?_
   refine rLa 75 (.tmp 2) (hS43.blk 1 rfl) ?_
   obtain ⟨t44,hr45,hp46⟩:=bind_some' hp41
   refine rC (weirref06_reader__fail.ok hr45 hS43 y11 y12) ?_
   rintro _ w47 ⟨rfl,hS48⟩
   refine ⟨_,rfl,?_⟩
   refine sR 1 [] ?_
   have hS49:=hS48.pick1
   have hS50:=hS49.drop
   refine runs_end (fn:=Tryz.f171) (v:=.tuple #[]) Tryz.func171 (by kernel_rfl) ?_
   cases Option.some.inj hp46
   exact hR _ _ ⟨rfl,hS50⟩
  refine sI 2 (.inRegion (opsOf (cd171 [1,0,0])) []::.code (cd171 [1,0,1])::td320) 9 hv8 (fun hp54 => ?_) fun hp66 => ?_
  ·refine sR 2 (.code p171_9::td320) ?_
   refine r_drawn3 (C:=St w0 Z (xblk b1 75 (enc_api_Token (⟨0,(⟨#[]⟩ : ByteArray),0,0,0,0,0⟩ : api_Token))::xblk ba0 122 ([.slice y7 a0v.L.length y8,.int .i64 a0v.At] ++ (enc_api_Token a0v.Last) ++ [.int .i64 a0v.Deep,.slice y9 a0v.C.length y10] ++ (enc_weirref05_Fault a0v.F))::fs)) (c:=p171_9) (id:=2) (by kernel_rfl) (by kernel_rfl) 12 (Nat.le_of_ble_eq_true (by kernel_rfl)) (by kernel_rfl) (by kernel_rfl) (by kernel_rfl) (is:=[0,1,2,3,4,5,6,7,8,9,10,11]) (rest:=[12]) (by kernel_rfl) (by kernel_rfl) hS6.drew ?_
   refine qR 3 (rg 3 9) ?_
   refine qL1 53 (.tmp 12) 0 (fun w hC => (hC.blk 1 rfl)) ?_
   refine qR 3 (rg 7 5) ?_
   refine qL1 53 (.tmp 16) 0 (fun w hC => (hC.blk 1 rfl)) ?_
   refine qR 2 [10,11] ?_
   obtain ⟨g55,hp56⟩:=ite_some hp54
   obtain ⟨b57,p58,hA59,hc60⟩:=y11.atF g55.1 g55.2
   refine q_indexAddr (c:=(hd p171_9 12)) (i:=10) (d:=(some 20)) (ty:=0) (t:=53) (e:=75) (n:=a0v.L.length) (cp:=y8) (sz:=7) (kk:=.i64) (x:=(.tmp 13)) (y:=(.tmp 19)) (b:=b57) (o':=p58) (j:=(IntKind.i64.wrap ((a0v.L.length : Int) - 1))) (by kernel_rfl) (by kernel_rfl) (slv (by kernel_rfl) hA59) (by kernel_rfl) (by kernel_rfl) (by kernel_rfl) g55.1 g55.2 ?_
   refine qLa 75 (.tmp 20) (fun w hC => (hc60.cells hC)) ?_
   refine Qs.nil ?_
   intro w61 hS62
   refine rSA 75 (.tmp 2) (.tmp 21) (enc_api_Token (gt a0v.L (IntKind.i64.wrap ((a0v.L.length : Int) - 1)))) hS62 (one_api_Token _) ?_
   intro w63 hS64
   refine sR 1 td320 ?_
   have hS65:=hS64.pick1
   exact rF _ (J13 (gt a0v.L (IntKind.i64.wrap ((a0v.L.length : Int) - 1))) (Option.some.inj hp56) _ _ hS65)
  refine sR 3 td320 ?_
  have hS67:=hS6.pick1
  exact rF _ (J13 (⟨0,(⟨#[]⟩ : ByteArray),0,0,0,0,0⟩ : api_Token) (Option.some.inj hp66) _ _ hS67)

noncomputable def cd152 (p : List Nat) : Code := sub (bodyOf Tryz.f152) p
abbrev p152_2:=cd152 [1]
def weirref06_reader__sign.f (a0v : weirref06_reader) (a1 : ByteArray) : Option (Int × api_Token × weirref05_Fault) :=
  (weirref06_reader__is.f a0v 0 4 a1 >>= (fun t1 => (if (!t1) = true then (weirref06_reader__syntax.f a0v >>= (fun t11 => some ((a0v.At,a0v.Last,t11)))) else (weirref06_reader__take.f a0v >>= (fun (t18,t19,t20) => some ((t19,t20,a0v.F)))))))
theorem weirref06_reader__sign.ok {a0v : weirref06_reader} {a1 : ByteArray} {ba0 : Nat} {y7 : Option Addr} {y8 : Nat} {y9 : Option Addr} {y10 : Nat} {q0 : Int} {q1 : api_Token} {q2 : weirref05_Fault} (hp0 : weirref06_reader__sign.f a0v a1 = some (q0,q1,q2)) (hS0 : St w0 Z (xblk ba0 122 ([.slice y7 a0v.L.length y8,.int .i64 a0v.At] ++ (enc_api_Token a0v.Last) ++ [.int .i64 a0v.Deep,.slice y9 a0v.C.length y10] ++ (enc_weirref05_Fault a0v.F))::fs) w) (y11 : SlZ (flat enc_api_Token) 7 Z y7 y8 a0v.L) (y12 : SlZ (flat enc_api_Node) 6 Z y9 y10 a0v.C) :
    Calls Tryz.prog 152 #[.pointer (some ⟨ba0,0,none⟩),.string a1] w (fun e w' => e = .returned (.tuple #[]) ∧ St w0 Z (xblk ba0 122 ([.slice y7 a0v.L.length y8,.int .i64 q0] ++ (enc_api_Token q1) ++ [.int .i64 a0v.Deep,.slice y9 a0v.C.length y10] ++ (enc_weirref05_Fault q2))::fs) w'):=by
  refine calls_abs ?_; intro R hR
  unfold weirref06_reader__sign.f at hp0
  refine calls_of_runs (fn:=Tryz.f152) (c:=cd152 []) Tryz.func152 (by kernel_rfl) (al:=[.pointer (some ⟨ba0,0,none⟩),.string a1]) rfl (n:=10) rfl ?_
  refine sR 5 [.inRegion (opsOf (cd152 [0,0])) [2,3],.code (cd152 [0,1]),.code p152_2] ?_
  obtain ⟨t1,hr2,hp3⟩:=bind_some' hp0
  refine rC (weirref06_reader__is.ok hr2 hS0 y11 y12) ?_
  rintro _ w6 ⟨rfl,hS7⟩
  refine ⟨_,rfl,?_⟩
  refine sI 1 [.inRegion (opsOf (cd152 [0,0])) [],.code (cd152 [0,1]),.code p152_2] 7 hp3 (fun hp10 => ?_) fun hp17 => ?_
  ·refine sR 5 [.inRegion (opsOf (cd152 [0,1,0,0])) [1],.code (cd152 [0,1,0,1]),.code p152_2] ?_
   obtain ⟨t11,hr12,hp13⟩:=bind_some' hp10
   refine rC (weirref06_reader__syntax.ok hr12 hS7 y11 y12) ?_
   rintro _ w14 ⟨rfl,hS15⟩
   refine ⟨_,rfl,?_⟩
   refine sR 1 [.code (cd152 [0,1,0,1]),.code p152_2] ?_
   refine rR (.tuple #[]) Tryz.func152 ?_
   cases Option.some.inj hp13
   exact hR _ _ ⟨rfl,hS15⟩
  refine sR 5 [.inRegion (opsOf p152_2) [1]] ?_
  obtain ⟨⟨t18,t19,t20⟩,hr21,hp22⟩:=bind_some' hp17
  try dsimp only at hp22
  refine rC (weirref06_reader__take.ok hr21 hS7 y11 y12) ?_
  rintro _ w23 ⟨rfl,hS24⟩
  refine ⟨_,rfl,?_⟩
  refine sR 1 [] ?_
  refine runs_end (fn:=Tryz.f152) (v:=.tuple #[]) Tryz.func152 (by kernel_rfl) ?_
  cases Option.some.inj hp22
  exact hR _ _ ⟨rfl,hS24⟩

noncomputable def cd183 (p : List Nat) : Code := sub (bodyOf Tryz.f183) p
abbrev p183_0:=cd183 [1,0]
abbrev td321:List Item:=[.code (cd183 [1,1])]
def weirref05_Name.f (a0 : ByteArray) : Option Bool :=
  (if (decide ((a0.size : Int) > 0)) = true then (if (decide ((a0.size : Int) ≤ 64)) = true then (weirref05_name.f a0 0 >>= (fun t7 => (if (t7 == (a0.size : Int)) = true then some (true) else some (false)))) else some (false)) else some (false))
theorem weirref05_Name.ok {a0 : ByteArray} {q0 : Bool} (hp0 : weirref05_Name.f a0 = some q0) (hS0 : St w0 Z (fs) w) :
    Calls Tryz.prog 183 #[.string a0] w (fun e w' => e = .returned (.bool q0) ∧ St w0 Z (fs) w'):=by
  refine calls_abs ?_; intro R hR
  unfold weirref05_Name.f at hp0
  refine calls_of_runs (fn:=Tryz.f183) (c:=cd183 []) Tryz.func183 (by kernel_rfl) (al:=[.string a0]) rfl (n:=17) rfl ?_
  refine sI 9 (iR p183_0 3 13::td321) 5 hp0 (fun hp3 => ?_) fun hp20 => ?_
  ·refine sI 4 (iR p183_0 7 9::td321) 9 hp3 (fun hp6 => ?_) fun hp18 => ?_
   ·refine sR 3 (iR p183_0 10 6::td321) ?_
    obtain ⟨t7,hr8,hp9⟩:=bind_some' hp6
    refine rC (weirref05_name.ok hr8 hS0) ?_
    rintro _ w10 ⟨rfl,hS11⟩
    refine ⟨_,rfl,?_⟩
    refine sI 3 (.inRegion (opsOf p183_0) [14,15]::td321) 16 hp9 (fun hp14 => ?_) fun hp16 => ?_
    ·refine sR 3 td321 ?_
     refine rR (.bool true) Tryz.func183 ?_
     cases Option.some.inj hp14
     exact hR _ _ ⟨rfl,hS11⟩
    refine sR 3 td321 ?_
    refine rR (.bool false) Tryz.func183 ?_
    cases Option.some.inj hp16
    exact hR _ _ ⟨rfl,hS11⟩
   refine sR 10 td321 ?_
   refine rR (.bool false) Tryz.func183 ?_
   cases Option.some.inj hp18
   exact hR _ _ ⟨rfl,hS0⟩
  refine sR 14 td321 ?_
  refine rR (.bool false) Tryz.func183 ?_
  cases Option.some.inj hp20
  exact hR _ _ ⟨rfl,hS0⟩

noncomputable def cd172 (p : List Nat) : Code := sub (bodyOf Tryz.f172) p
abbrev p172_0:=cd172 [1,0,0]
abbrev td322:List Item:=[.code (cd172 [1,1])]
abbrev td323:List Item:=.code (cd172 [1,0,1,0,1])::td322
abbrev td324:List Item:=.inRegion (opsOf (cd172 [1,0,1,0,0])) [1]::td323
abbrev td325:List Item:=.code (cd172 [1,0,1,0,1,1])::td322
def weirref06_reader__name.f (a0v : weirref06_reader) : Option (ByteArray × Int × api_Token × weirref05_Fault) :=
  (weirref06_reader__bad.f a0v >>= (fun t1 => (if t1 = true then (weirref06_reader__syntax.f a0v >>= (fun t71 => some (((⟨#[]⟩ : ByteArray),a0v.At,a0v.Last,t71)))) else (if (decide (a0v.At ≥ (a0v.L.length : Int))) = true then (weirref06_reader__syntax.f a0v >>= (fun t12 => some (((⟨#[]⟩ : ByteArray),a0v.At,a0v.Last,t12)))) else (if 0 ≤ a0v.At ∧ a0v.At < (a0v.L.length : Int) then (if (((gt a0v.L a0v.At).Kind) != 1) = true then (weirref06_reader__syntax.f a0v >>= (fun t30 => some (((⟨#[]⟩ : ByteArray),a0v.At,a0v.Last,t30)))) else (if 0 ≤ a0v.At ∧ a0v.At < (a0v.L.length : Int) then (weirref05_Name.f ((gt a0v.L a0v.At).Text) >>= (fun t43 => (if (!t43) = true then (weirref06_reader__syntax.f a0v >>= (fun t51 => some (((⟨#[]⟩ : ByteArray),a0v.At,a0v.Last,t51)))) else (weirref06_reader__take.f a0v >>= (fun (t60,t61,t62) => some ((t60.Text,t61,t62,a0v.F))))))) else none)) else none)))))
theorem weirref06_reader__name.ok {a0v : weirref06_reader} {ba0 : Nat} {y7 : Option Addr} {y8 : Nat} {y9 : Option Addr} {y10 : Nat} {q0 : ByteArray} {q1 : Int} {q2 : api_Token} {q3 : weirref05_Fault} (hp0 : weirref06_reader__name.f a0v = some (q0,q1,q2,q3)) (hS0 : St w0 Z (xblk ba0 122 ([.slice y7 a0v.L.length y8,.int .i64 a0v.At] ++ (enc_api_Token a0v.Last) ++ [.int .i64 a0v.Deep,.slice y9 a0v.C.length y10] ++ (enc_weirref05_Fault a0v.F))::fs) w) (y11 : SlZ (flat enc_api_Token) 7 Z y7 y8 a0v.L) (y12 : SlZ (flat enc_api_Node) 6 Z y9 y10 a0v.C) :
    Calls Tryz.prog 172 #[.pointer (some ⟨ba0,0,none⟩)] w (fun e w' => e = .returned (.string q0) ∧ St w0 Z (xblk ba0 122 ([.slice y7 a0v.L.length y8,.int .i64 q1] ++ (enc_api_Token q2) ++ [.int .i64 a0v.Deep,.slice y9 a0v.C.length y10] ++ (enc_weirref05_Fault q3))::fs) w'):=by
  refine calls_abs ?_; intro R hR
  unfold weirref06_reader__name.f at hp0
  refine calls_of_runs (fn:=Tryz.f172) (c:=cd172 []) Tryz.func172 (by kernel_rfl) (al:=[.pointer (some ⟨ba0,0,none⟩)]) rfl (n:=50) rfl ?_
  refine sR 6 (.code p172_0::.code (cd172 [1,0,1])::td322) ?_
  refine r_quiet hS0 (c:=p172_0) (id:=1) (by kernel_rfl) (by kernel_rfl) (by kernel_rfl) (is:=[0,1,2,3,4,5,6,7,8,9,10,11,12,13,14,15,16,17,18,19,20,21,22,23,24,25,26,27,28,29,30,31,32,33,34,35,36,37,38,39,40,41,42]) (by kernel_rfl) ?_
  refine qR 1 (rg 1 42) ?_
  obtain ⟨t1,hr2,hp3⟩:=bind_some' hp0
  refine q_call1 (c:=p172_0) (i:=1) (d:=(some 4)) (v:=.bool t1) (g:=50) (args:=#[.pointer (some ⟨ba0,0,none⟩)]) (by kernel_rfl) (by kernel_rfl) (by kernel_rfl) (by kernel_rfl) (fun w hC => by
   refine (weirref06_reader__bad.ok hr2 hC y11 y12).mono ?_
   rintro e w2 ⟨rfl,h2⟩
   exact ⟨rfl,h2⟩) ?_
  refine qR 1 (rg 3 40) ?_
  cases t1
  ·have hp6:=ite_f hp3 rfl
   refine qR 3 (rg 6 37) ?_
   refine qL1 3 (.tmp 8) 1 (fun w hC => (hC.blk 0 rfl)) ?_
   refine qR 3 (rg 10 33) ?_
   refine qL1 53 (.tmp 12) 0 (fun w hC => (hC.blk 0 rfl)) ?_
   refine qI 2 (rg 13 30) 15 hp6 (fun hp9 => ?_) fun hp18 => ?_
   ·refine qR 30 [] ?_
    refine Qs.nil ?_
    intro w10 hS11
    refine sR 4 td324 ?_
    obtain ⟨t12,hr13,hp14⟩:=bind_some' hp9
    refine rC (weirref06_reader__syntax.ok hr13 hS11 y11 y12) ?_
    rintro _ w15 ⟨rfl,hS16⟩
    refine ⟨_,rfl,?_⟩
    refine sR 5 td325 ?_
    refine rR (.string (⟨#[]⟩ : ByteArray)) Tryz.func172 ?_
    cases Option.some.inj hp14
    exact hR _ _ ⟨rfl,hS16⟩
   refine qR 5 (rg 18 25) ?_
   refine qL1 53 (.tmp 20) 0 (fun w hC => (hC.blk 0 rfl)) ?_
   refine qR 3 (rg 22 21) ?_
   refine qL1 3 (.tmp 24) 1 (fun w hC => (hC.blk 0 rfl)) ?_
   obtain ⟨g19,hp20⟩:=ite_some hp18
   obtain ⟨b21,p22,hA23,hc24⟩:=y11.atF g19.1 g19.2
   refine q_indexAddr (c:=p172_0) (i:=23) (d:=(some 26)) (ty:=0) (t:=53) (e:=75) (n:=a0v.L.length) (cp:=y8) (sz:=7) (kk:=.i64) (x:=(.tmp 21)) (y:=(.tmp 25)) (b:=b21) (o':=p22) (j:=a0v.At) (by kernel_rfl) (by kernel_rfl) (slv (by kernel_rfl) hA23) (by kernel_rfl) (by kernel_rfl) (by kernel_rfl) g19.1 g19.2 ?_
   refine qR 1 (rg 25 18) ?_
   refine qL1 3 (.tmp 27) 0 (fun w hC => (hc24.cells hC)) ?_
   refine qI 1 (rg 27 16) 29 hp20 (fun hp27 => ?_) fun hp36 => ?_
   ·refine qR 16 [] ?_
    refine Qs.nil ?_
    intro w28 hS29
    refine sR 4 td324 ?_
    obtain ⟨t30,hr31,hp32⟩:=bind_some' hp27
    refine rC (weirref06_reader__syntax.ok hr31 hS29 y11 y12) ?_
    rintro _ w33 ⟨rfl,hS34⟩
    refine ⟨_,rfl,?_⟩
    refine sR 5 td325 ?_
    refine rR (.string (⟨#[]⟩ : ByteArray)) Tryz.func172 ?_
    cases Option.some.inj hp32
    exact hR _ _ ⟨rfl,hS34⟩
   refine qR 5 (rg 32 11) ?_
   refine qL1 53 (.tmp 34) 0 (fun w hC => (hC.blk 0 rfl)) ?_
   refine qR 3 (rg 36 7) ?_
   refine qL1 3 (.tmp 38) 1 (fun w hC => (hC.blk 0 rfl)) ?_
   obtain ⟨g37,hp38⟩:=ite_some hp36
   obtain ⟨b39,p40,hA41,hc42⟩:=y11.atF g37.1 g37.2
   refine q_indexAddr (c:=p172_0) (i:=37) (d:=(some 40)) (ty:=0) (t:=53) (e:=75) (n:=a0v.L.length) (cp:=y8) (sz:=7) (kk:=.i64) (x:=(.tmp 35)) (y:=(.tmp 39)) (b:=b39) (o':=p40) (j:=a0v.At) (by kernel_rfl) (by kernel_rfl) (slv (by kernel_rfl) hA41) (by kernel_rfl) (by kernel_rfl) (by kernel_rfl) g37.1 g37.2 ?_
   refine qR 1 (rg 39 4) ?_
   refine qL1 9 (.tmp 41) 1 (fun w hC => (hc42.cells hC)) ?_
   obtain ⟨t43,hr44,hp45⟩:=bind_some' hp38
   refine q_call1 (c:=p172_0) (i:=40) (d:=(some 43)) (v:=.bool t43) (g:=183) (args:=#[.string ((gt a0v.L a0v.At).Text)]) (by kernel_rfl) (by kernel_rfl) (by kernel_rfl) (by kernel_rfl) (fun w hC => by
    refine (weirref05_Name.ok hr44 hC).mono ?_
    rintro e w2 ⟨rfl,h2⟩
    exact ⟨rfl,h2⟩) ?_
   refine qI 1 [42] 44 hp45 (fun hp48 => ?_) fun hp57 => ?_
   ·refine qR 1 [] ?_
    refine Qs.nil ?_
    intro w49 hS50
    refine sR 4 td324 ?_
    obtain ⟨t51,hr52,hp53⟩:=bind_some' hp48
    refine rC (weirref06_reader__syntax.ok hr52 hS50 y11 y12) ?_
    rintro _ w54 ⟨rfl,hS55⟩
    refine ⟨_,rfl,?_⟩
    refine sR 5 td325 ?_
    refine rR (.string (⟨#[]⟩ : ByteArray)) Tryz.func172 ?_
    cases Option.some.inj hp53
    exact hR _ _ ⟨rfl,hS55⟩
   refine qR 1 [] ?_
   refine Qs.nil ?_
   intro w58 hS59
   refine sR 5 [.inRegion (opsOf (cd172 [1,1,0])) [1,2,3],.code (cd172 [1,1,1])] ?_
   obtain ⟨⟨t60,t61,t62⟩,hr63,hp64⟩:=bind_some' hp57
   try dsimp only at hp64
   refine rC (weirref06_reader__take.ok hr63 hS59 y11 y12) ?_
   rintro _ w65 ⟨rfl,hS66⟩
   refine ⟨_,rfl,?_⟩
   refine sR 3 [.code (cd172 [1,1,1])] ?_
   refine rR (.string t60.Text) Tryz.func172 ?_
   cases Option.some.inj hp64
   exact hR _ _ ⟨rfl,hS66⟩
  have hp68:=ite_t hp3 rfl
  refine qR 40 [] ?_
  refine Qs.nil ?_
  intro w69 hS70
  refine sR 4 td324 ?_
  obtain ⟨t71,hr72,hp73⟩:=bind_some' hp68
  refine rC (weirref06_reader__syntax.ok hr72 hS70 y11 y12) ?_
  rintro _ w74 ⟨rfl,hS75⟩
  refine ⟨_,rfl,?_⟩
  refine sR 5 td325 ?_
  refine rR (.string (⟨#[]⟩ : ByteArray)) Tryz.func172 ?_
  cases Option.some.inj hp73
  exact hR _ _ ⟨rfl,hS75⟩

noncomputable def cd174 (p : List Nat) : Code := sub (bodyOf Tryz.f174) p
abbrev p174_0:=cd174 [1,0,0]
abbrev td326:List Item:=[.code (cd174 [1,1])]
abbrev td327:List Item:=.code (cd174 [1,0,1,0,1])::td326
abbrev td328:List Item:=.inRegion (opsOf (cd174 [1,0,1,0,0])) [1]::td327
abbrev td329:List Item:=.code (cd174 [1,0,1,0,1,1])::td326
def weirref06_reader__number.f (a0v : weirref06_reader) : Option (Int × Int × api_Token × weirref05_Fault) :=
  (weirref06_reader__bad.f a0v >>= (fun t1 => (if t1 = true then (weirref06_reader__syntax.f a0v >>= (fun t50 => some ((0,a0v.At,a0v.Last,t50)))) else (if (decide (a0v.At ≥ (a0v.L.length : Int))) = true then (weirref06_reader__syntax.f a0v >>= (fun t12 => some ((0,a0v.At,a0v.Last,t12)))) else (if 0 ≤ a0v.At ∧ a0v.At < (a0v.L.length : Int) then (if (((gt a0v.L a0v.At).Kind) != 2) = true then (weirref06_reader__syntax.f a0v >>= (fun t30 => some ((0,a0v.At,a0v.Last,t30)))) else (weirref06_reader__take.f a0v >>= (fun (t39,t40,t41) => some ((t39.Value,t40,t41,a0v.F))))) else none)))))
theorem weirref06_reader__number.ok {a0v : weirref06_reader} {ba0 : Nat} {y7 : Option Addr} {y8 : Nat} {y9 : Option Addr} {y10 : Nat} {q0 q1 : Int} {q2 : api_Token} {q3 : weirref05_Fault} (hp0 : weirref06_reader__number.f a0v = some (q0,q1,q2,q3)) (hS0 : St w0 Z (xblk ba0 122 ([.slice y7 a0v.L.length y8,.int .i64 a0v.At] ++ (enc_api_Token a0v.Last) ++ [.int .i64 a0v.Deep,.slice y9 a0v.C.length y10] ++ (enc_weirref05_Fault a0v.F))::fs) w) (y11 : SlZ (flat enc_api_Token) 7 Z y7 y8 a0v.L) (y12 : SlZ (flat enc_api_Node) 6 Z y9 y10 a0v.C) :
    Calls Tryz.prog 174 #[.pointer (some ⟨ba0,0,none⟩)] w (fun e w' => e = .returned (.int .i64 q0) ∧ St w0 Z (xblk ba0 122 ([.slice y7 a0v.L.length y8,.int .i64 q1] ++ (enc_api_Token q2) ++ [.int .i64 a0v.Deep,.slice y9 a0v.C.length y10] ++ (enc_weirref05_Fault q3))::fs) w'):=by
  refine calls_abs ?_; intro R hR
  unfold weirref06_reader__number.f at hp0
  refine calls_of_runs (fn:=Tryz.f174) (c:=cd174 []) Tryz.func174 (by kernel_rfl) (al:=[.pointer (some ⟨ba0,0,none⟩)]) rfl (n:=35) rfl ?_
  refine sR 6 (.code p174_0::.code (cd174 [1,0,1])::td326) ?_
  refine r_quiet hS0 (c:=p174_0) (id:=1) (by kernel_rfl) (by kernel_rfl) (by kernel_rfl) (is:=[0,1,2,3,4,5,6,7,8,9,10,11,12,13,14,15,16,17,18,19,20,21,22,23,24,25,26,27]) (by kernel_rfl) ?_
  refine qR 1 (rg 1 27) ?_
  obtain ⟨t1,hr2,hp3⟩:=bind_some' hp0
  refine q_call1 (c:=p174_0) (i:=1) (d:=(some 4)) (v:=.bool t1) (g:=50) (args:=#[.pointer (some ⟨ba0,0,none⟩)]) (by kernel_rfl) (by kernel_rfl) (by kernel_rfl) (by kernel_rfl) (fun w hC => by
   refine (weirref06_reader__bad.ok hr2 hC y11 y12).mono ?_
   rintro e w2 ⟨rfl,h2⟩
   exact ⟨rfl,h2⟩) ?_
  refine qR 1 (rg 3 25) ?_
  cases t1
  ·have hp6:=ite_f hp3 rfl
   refine qR 3 (rg 6 22) ?_
   refine qL1 3 (.tmp 8) 1 (fun w hC => (hC.blk 0 rfl)) ?_
   refine qR 3 (rg 10 18) ?_
   refine qL1 53 (.tmp 12) 0 (fun w hC => (hC.blk 0 rfl)) ?_
   refine qI 2 (rg 13 15) 15 hp6 (fun hp9 => ?_) fun hp18 => ?_
   ·refine qR 15 [] ?_
    refine Qs.nil ?_
    intro w10 hS11
    refine sR 4 td328 ?_
    obtain ⟨t12,hr13,hp14⟩:=bind_some' hp9
    refine rC (weirref06_reader__syntax.ok hr13 hS11 y11 y12) ?_
    rintro _ w15 ⟨rfl,hS16⟩
    refine ⟨_,rfl,?_⟩
    refine sR 5 td329 ?_
    refine rR (.int .i64 0) Tryz.func174 ?_
    cases Option.some.inj hp14
    exact hR _ _ ⟨rfl,hS16⟩
   refine qR 5 (rg 18 10) ?_
   refine qL1 53 (.tmp 20) 0 (fun w hC => (hC.blk 0 rfl)) ?_
   refine qR 3 (rg 22 6) ?_
   refine qL1 3 (.tmp 24) 1 (fun w hC => (hC.blk 0 rfl)) ?_
   obtain ⟨g19,hp20⟩:=ite_some hp18
   obtain ⟨b21,p22,hA23,hc24⟩:=y11.atF g19.1 g19.2
   refine q_indexAddr (c:=p174_0) (i:=23) (d:=(some 26)) (ty:=0) (t:=53) (e:=75) (n:=a0v.L.length) (cp:=y8) (sz:=7) (kk:=.i64) (x:=(.tmp 21)) (y:=(.tmp 25)) (b:=b21) (o':=p22) (j:=a0v.At) (by kernel_rfl) (by kernel_rfl) (slv (by kernel_rfl) hA23) (by kernel_rfl) (by kernel_rfl) (by kernel_rfl) g19.1 g19.2 ?_
   refine qR 1 [25,26,27] ?_
   refine qL1 3 (.tmp 27) 0 (fun w hC => (hc24.cells hC)) ?_
   refine qI 1 [27] 29 hp20 (fun hp27 => ?_) fun hp36 => ?_
   ·refine qR 1 [] ?_
    refine Qs.nil ?_
    intro w28 hS29
    refine sR 4 td328 ?_
    obtain ⟨t30,hr31,hp32⟩:=bind_some' hp27
    refine rC (weirref06_reader__syntax.ok hr31 hS29 y11 y12) ?_
    rintro _ w33 ⟨rfl,hS34⟩
    refine ⟨_,rfl,?_⟩
    refine sR 5 td329 ?_
    refine rR (.int .i64 0) Tryz.func174 ?_
    cases Option.some.inj hp32
    exact hR _ _ ⟨rfl,hS34⟩
   refine qR 1 [] ?_
   refine Qs.nil ?_
   intro w37 hS38
   refine sR 5 [.inRegion (opsOf (cd174 [1,1,0])) [1,2,3],.code (cd174 [1,1,1])] ?_
   obtain ⟨⟨t39,t40,t41⟩,hr42,hp43⟩:=bind_some' hp36
   try dsimp only at hp43
   refine rC (weirref06_reader__take.ok hr42 hS38 y11 y12) ?_
   rintro _ w44 ⟨rfl,hS45⟩
   refine ⟨_,rfl,?_⟩
   refine sR 3 [.code (cd174 [1,1,1])] ?_
   refine rR (.int .i64 t39.Value) Tryz.func174 ?_
   cases Option.some.inj hp43
   exact hR _ _ ⟨rfl,hS45⟩
  have hp47:=ite_t hp3 rfl
  refine qR 25 [] ?_
  refine Qs.nil ?_
  intro w48 hS49
  refine sR 4 td328 ?_
  obtain ⟨t50,hr51,hp52⟩:=bind_some' hp47
  refine rC (weirref06_reader__syntax.ok hr51 hS49 y11 y12) ?_
  rintro _ w53 ⟨rfl,hS54⟩
  refine ⟨_,rfl,?_⟩
  refine sR 5 td329 ?_
  refine rR (.int .i64 0) Tryz.func174 ?_
  cases Option.some.inj hp52
  exact hR _ _ ⟨rfl,hS54⟩

noncomputable def cd153 (p : List Nat) : Code := sub (bodyOf Tryz.f153) p
abbrev p153_10:=cd153 [1,1,1,1,1,1]
abbrev p153_11:=cd153 [1,1,0,0,1,1,0]
abbrev p153_13:=cd153 [1,1,0,0,1,1,1,0,0]
abbrev p153_16:=cd153 [1,1,0,0,1,1,1,0,1,1]
abbrev p153_21:=cd153 [1,1,0,0,1,0,1,1]
abbrev td330:List Item:=[.code (cd153 [1,1,1])]
abbrev td331:List Item:=.inBlock 0::td330
abbrev td332:List Item:=.code (cd153 [1,1,0,0,1,1,1,0,1])::td331
abbrev td333:List Item:=.inRegion (opsOf (cd153 [1,1,0,0,1,1,1,1])) [1,2,3]::td331
abbrev td334:List Item:=.inRegion (opsOf (cd153 [1,1,0,0,1,1,1,1])) [3]::td331
def weirref06_reader__equation.f (a0v : weirref06_reader) : Option (Int × Int × api_Token × (List api_Node) × weirref05_Fault) :=
  (weirref06_reader__is.f a0v 0 4 (⟨#[91]⟩ : ByteArray) >>= (fun t7 => (((if t7 = true then (weirref06_reader__take.f a0v >>= (fun (t228,t229,t230) => (weirref06_reader__name.f (⟨a0v.L,t229,t230,a0v.Deep,a0v.C,a0v.F⟩ : weirref06_reader) >>= (fun (t241,t242,t243,t244) => (weirref06_reader__sign.f (⟨a0v.L,t242,t243,a0v.Deep,a0v.C,t244⟩ : weirref06_reader) (⟨#[93]⟩ : ByteArray) >>= (fun (t258,t259,t260) => some ((t258,t259,t260,(⟨(-1),t241⟩ : api_Ref))))))))) else (if (decide (a0v.At < (a0v.L.length : Int))) = true then (if 0 ≤ a0v.At ∧ a0v.At < (a0v.L.length : Int) then (if (((gt a0v.L a0v.At).Kind) == 2) = true then (if 0 ≤ a0v.At ∧ a0v.At < (a0v.L.length : Int) then (weirref06_thread.f ((gt a0v.L a0v.At).Text) >>= (fun t95 => (if (decide (t95 ≥ 0)) = true then (weirref06_reader__take.f a0v >>= (fun (t106,t107,t108) => (weirref06_thread.f t106.Text >>= (fun t119 => (weirref06_reader__sign.f (⟨a0v.L,t107,t108,a0v.Deep,a0v.C,a0v.F⟩ : weirref06_reader) (⟨#[58]⟩ : ByteArray) >>= (fun (t127,t128,t129) => (weirref06_reader__name.f (⟨a0v.L,t127,t128,a0v.Deep,a0v.C,t129⟩ : weirref06_reader) >>= (fun (t142,t143,t144,t145) => some ((t143,t144,t145,(⟨t119,t142⟩ : api_Ref))))))))))) else (weirref06_reader__name.f a0v >>= (fun (t164,t165,t166,t167) => some ((t165,t166,t167,(⟨(-1),t164⟩ : api_Ref)))))))) else none) else (weirref06_reader__name.f a0v >>= (fun (t186,t187,t188,t189) => some ((t187,t188,t189,(⟨(-1),t186⟩ : api_Ref)))))) else none) else (weirref06_reader__name.f a0v >>= (fun (t208,t209,t210,t211) => some ((t209,t210,t211,(⟨(-1),t208⟩ : api_Ref))))))) : Option (Int × api_Token × weirref05_Fault × api_Ref)) >>= (fun (t25,t26,t27,t28) => (weirref06_reader__sign.f (⟨a0v.L,t25,t26,a0v.Deep,a0v.C,t27⟩ : weirref06_reader) (⟨#[61]⟩ : ByteArray) >>= (fun (t34,t35,t36) => (weirref06_reader__number.f (⟨a0v.L,t34,t35,a0v.Deep,a0v.C,t36⟩ : weirref06_reader) >>= (fun (t48,t49,t50,t51) => (weirref06_reader__node.f (⟨a0v.L,t49,t50,a0v.Deep,a0v.C,t51⟩ : weirref06_reader) (⟨2,0,0,t28,t48⟩ : api_Node) >>= (fun (t62,t63,t64) => some ((t62,t49,t50,t63,t64))))))))))))
theorem weirref06_reader__equation.ok {a0v : weirref06_reader} {ba0 : Nat} {y7 : Option Addr} {y8 : Nat} {y9 : Option Addr} {y10 : Nat} {q0 q1 : Int} {q2 : api_Token} {q3 : List api_Node} {q4 : weirref05_Fault} (hp0 : weirref06_reader__equation.f a0v = some (q0,q1,q2,q3,q4)) (hS0 : St w0 Z (xblk ba0 122 ([.slice y7 a0v.L.length y8,.int .i64 a0v.At] ++ (enc_api_Token a0v.Last) ++ [.int .i64 a0v.Deep,.slice y9 a0v.C.length y10] ++ (enc_weirref05_Fault a0v.F))::xrow y9 y10 68 6 (a0v.C.flatMap enc_api_Node)::fs) w) (y11 : SlZ (flat enc_api_Token) 7 Z y7 y8 a0v.L) :
    Calls Tryz.prog 153 #[.pointer (some ⟨ba0,0,none⟩)] w (fun e w' => ∃ (QA0 : Option Addr) (Qc0 : Nat),e = .returned (.int .i64 q0) ∧ St w0 Z (xrow QA0 Qc0 68 6 (q3.flatMap enc_api_Node)::xblk ba0 122 ([.slice y7 a0v.L.length y8,.int .i64 q1] ++ (enc_api_Token q2) ++ [.int .i64 a0v.Deep,.slice QA0 q3.length Qc0] ++ (enc_weirref05_Fault q4))::fs) w'):=by
  refine calls_abs ?_; intro R hR
  unfold weirref06_reader__equation.f at hp0
  refine calls_of_runs (fn:=Tryz.f153) (c:=cd153 []) Tryz.func153 (by kernel_rfl) (al:=[.pointer (some ⟨ba0,0,none⟩)]) rfl (n:=77) rfl ?_
  refine sR 7 [.inRegion (opsOf (cd153 [1,0])) [1,2],.code (cd153 [1,1])] ?_
  refine rA 66 (.agg (enc_api_Ref (⟨0,(⟨#[]⟩ : ByteArray)⟩ : api_Ref)).toArray) (enc_api_Ref (⟨0,(⟨#[]⟩ : ByteArray)⟩ : api_Ref)) hS0 ?_
  intro b1 w2 hS3
  refine rSA 66 (.tmp 3) (.tmp 5) (enc_api_Ref (⟨(-1),(⟨#[]⟩ : ByteArray)⟩ : api_Ref)) hS3 (one_api_Ref _) ?_
  intro w5 hS6
  refine sR 6 (.inRegion (opsOf (cd153 [1,1,0,0,0])) [1,2]::.code (cd153 [1,1,0,0,1])::td331) ?_
  obtain ⟨t7,hr8,hp9⟩:=bind_some' hp0
  have hS12:=hS6.pick2
  obtain ⟨Z13,hz14,hS15,hs16,hb17⟩:=hS12.lendrow len_api_Node (by omega)
  have hS18:=hS15.pick1
  refine rC (weirref06_reader__is.ok hr8 hS18 (y11.up hz14) hs16) ?_
  rintro _ w19 ⟨rfl,hS20⟩
  refine ⟨_,rfl,?_⟩
  have hS21:=hb17 _ _ hS20
  refine sR 2 (.code (cd153 [1,1,0,0,1])::td331) ?_
  obtain ⟨v22,hv23,hp24⟩:=bind_some' hp9
  have J31 : ∀ (t25 : Int) (t26 : api_Token) (t27 : weirref05_Fault) (t28 : api_Ref) (he33 : (t25,t26,t27,t28) = v22) (l32 : List Value) (w29 : World) (hS30 : St w0 Z (xblk ba0 122 ([.slice y7 a0v.L.length y8,.int .i64 t25] ++ (enc_api_Token t26) ++ [.int .i64 a0v.Deep,.slice y9 a0v.C.length y10] ++ (enc_weirref05_Fault t27))::xrow y9 y10 68 6 (a0v.C.flatMap enc_api_Node)::xblk b1 66 (enc_api_Ref t28)::fs) w29),Runs Tryz.prog (fx 153) td330 (fill (mk 78 [(0,.pointer (some ⟨ba0,0,none⟩)),(3,.pointer (some ⟨b1,0,none⟩))]) l32) w29 R:=by
   intro t25 t26 t27 t28 he33 l32 w29 hS30
   subst he33
   try dsimp only at hp24
   refine sR 3 [.inRegion (opsOf (cd153 [1,1,1,0])) [1],.code (cd153 [1,1,1,1])] ?_
   obtain ⟨⟨t34,t35,t36⟩,hr37,hp38⟩:=bind_some' hp24
   try dsimp only at hp38
   have hS39:=hS30.pick1
   obtain ⟨Z40,hz41,hS42,hs43,hb44⟩:=hS39.lendrow len_api_Node (by omega)
   refine rC (weirref06_reader__sign.ok hr37 hS42 (y11.up hz41) hs43) ?_
   rintro _ w45 ⟨rfl,hS46⟩
   refine ⟨_,rfl,?_⟩
   have hS47:=hb44 _ _ hS46
   refine sR 4 [.inRegion (opsOf (cd153 [1,1,1,1,0])) [1,2],.code (cd153 [1,1,1,1,1])] ?_
   obtain ⟨⟨t48,t49,t50,t51⟩,hr52,hp53⟩:=bind_some' hp38
   try dsimp only at hp53
   obtain ⟨Z54,hz55,hS56,hs57,hb58⟩:=hS47.lendrow len_api_Node (by omega)
   refine rC (weirref06_reader__number.ok hr52 hS56 (y11.up hz55) hs57) ?_
   rintro _ w59 ⟨rfl,hS60⟩
   refine ⟨_,rfl,?_⟩
   have hS61:=hb58 _ _ hS60
   refine sR 5 [iR (cd153 [1,1,1,1,1,0]) 1 5,.code p153_10] ?_
   refine rLa 66 (.tmp 3) (hS61.blk 2 rfl) ?_
   refine sR 2 [.inRegion (opsOf (cd153 [1,1,1,1,1,0])) [4,5],.code p153_10] ?_
   obtain ⟨⟨t62,t63,t64⟩,hr67,hp68⟩:=bind_some' hp53
   try dsimp only at hp68
   have hS70:=hS61.pick1
   refine rC (weirref06_reader__node.ok hr67 hS70 y11) ?_
   rintro _ w71 ⟨Q65,Q66,rfl,hS72⟩
   refine ⟨_,rfl,?_⟩
   refine sR 2 [.code p153_10] ?_
   have hS73:=hS72.pick2
   have hS74:=hS73.drop
   refine rR (.int .i64 t62) Tryz.func153 ?_
   cases Option.some.inj hp68
   exact hR _ _ ⟨Q65,Q66,rfl,hS74⟩
  cases t7
  ·have hp76:=ite_f hv23 rfl
   refine sR 2 (.code p153_11::.code (cd153 [1,1,0,0,1,1,1])::td331) ?_
   refine r_quiet hS21 (c:=p153_11) (id:=7) (by kernel_rfl) (by kernel_rfl) (by kernel_rfl) (is:=[0,1,2,3,4,5,6,7,8,9,10,11,12,13,14,15,16,17,18,19,20,21,22,23,24,25,26,27,28,29,30,31,32,33,34,35,36,37,38,39]) (by kernel_rfl) ?_
   refine qR 3 (rg 3 37) ?_
   refine qL1 3 (.tmp 22) 1 (fun w hC => (hC.blk 1 rfl)) ?_
   refine qR 3 (rg 7 33) ?_
   refine qL1 53 (.tmp 26) 0 (fun w hC => (hC.blk 1 rfl)) ?_
   refine qI 2 (rg 10 30) 29 hp76 (fun hp79 => ?_) fun hp205 => ?_
   ·refine qR 4 (rg 14 26) ?_
    refine qL1 53 (.tmp 33) 0 (fun w hC => (hC.blk 1 rfl)) ?_
    refine qR 3 (rg 18 22) ?_
    refine qL1 3 (.tmp 37) 1 (fun w hC => (hC.blk 1 rfl)) ?_
    obtain ⟨g80,hp81⟩:=ite_some hp79
    obtain ⟨b82,p83,hA84,hc85⟩:=y11.atF g80.1 g80.2
    refine q_indexAddr (c:=p153_11) (i:=19) (d:=(some 39)) (ty:=0) (t:=53) (e:=75) (n:=a0v.L.length) (cp:=y8) (sz:=7) (kk:=.i64) (x:=(.tmp 34)) (y:=(.tmp 38)) (b:=b82) (o':=p83) (j:=a0v.At) (by kernel_rfl) (by kernel_rfl) (slv (by kernel_rfl) hA84) (by kernel_rfl) (by kernel_rfl) (by kernel_rfl) g80.1 g80.2 ?_
    refine qR 1 (rg 21 19) ?_
    refine qL1 3 (.tmp 40) 0 (fun w hC => (hc85.cells hC)) ?_
    refine qI 1 (rg 23 17) 42 hp81 (fun hp88 => ?_) fun hp183 => ?_
    ·refine qR 5 (rg 28 12) ?_
     refine qL1 53 (.tmp 47) 0 (fun w hC => (hC.blk 1 rfl)) ?_
     refine qR 3 (rg 32 8) ?_
     refine qL1 3 (.tmp 51) 1 (fun w hC => (hC.blk 1 rfl)) ?_
     obtain ⟨g89,hp90⟩:=ite_some hp88
     obtain ⟨b91,p92,hA93,hc94⟩:=y11.atF g89.1 g89.2
     refine q_indexAddr (c:=p153_11) (i:=33) (d:=(some 53)) (ty:=0) (t:=53) (e:=75) (n:=a0v.L.length) (cp:=y8) (sz:=7) (kk:=.i64) (x:=(.tmp 48)) (y:=(.tmp 52)) (b:=b91) (o':=p92) (j:=a0v.At) (by kernel_rfl) (by kernel_rfl) (slv (by kernel_rfl) hA93) (by kernel_rfl) (by kernel_rfl) (by kernel_rfl) g89.1 g89.2 ?_
     refine qR 1 (rg 35 5) ?_
     refine qL1 9 (.tmp 54) 1 (fun w hC => (hc94.cells hC)) ?_
     obtain ⟨t95,hr96,hp97⟩:=bind_some' hp90
     refine q_call1 (c:=p153_11) (i:=36) (d:=(some 56)) (v:=.int .i64 t95) (g:=173) (args:=#[.string ((gt a0v.L a0v.At).Text)]) (by kernel_rfl) (by kernel_rfl) (by kernel_rfl) (by kernel_rfl) (fun w hC => by
      refine (weirref06_thread.ok hr96 hC).mono ?_
      rintro e w2 ⟨rfl,h2⟩
      have hS98:=h2.pick2
      have hS99:=hS98.pick2
      have hS100:=hS99.pick2
      exact ⟨rfl,hS100⟩) ?_
     refine qI 1 [38,39] 57 hp97 (fun hp103 => ?_) fun hp161 => ?_
     ·refine qR 2 [] ?_
      refine Qs.nil ?_
      intro w104 hS105
      refine sR 4 (iR p153_13 1 5::td332) ?_
      obtain ⟨⟨t106,t107,t108⟩,hr109,hp110⟩:=bind_some' hp103
      try dsimp only at hp110
      obtain ⟨Z111,hz112,hS113,hs114,hb115⟩:=hS105.lendrow len_api_Node (by omega)
      refine rC (weirref06_reader__take.ok hr109 hS113 (y11.up hz112) hs114) ?_
      rintro _ w116 ⟨rfl,hS117⟩
      refine ⟨_,rfl,?_⟩
      have hS118:=hb115 _ _ hS117
      refine sR 1 (.inRegion (opsOf p153_13) [3,4,5]::td332) ?_
      obtain ⟨t119,hr120,hp121⟩:=bind_some' hp110
      refine rC (weirref06_thread.ok hr120 hS118) ?_
      rintro _ w122 ⟨rfl,hS123⟩
      refine ⟨_,rfl,?_⟩
      refine sR 1 (.inRegion (opsOf p153_13) [5]::td332) ?_
      have hS124:=hS123.pick2
      refine rS 3 (.tmp 63) (.tmp 62) 0 (.int .i64 t119) [.int .i64 t119] (enc_api_Ref (⟨t119,(⟨#[]⟩ : ByteArray)⟩ : api_Ref)) hS124 ?_
      intro w125 hS126
      refine sR 4 (.inRegion (opsOf (cd153 [1,1,0,0,1,1,1,0,1,0])) [1]::.code p153_16::td331) ?_
      obtain ⟨⟨t127,t128,t129⟩,hr130,hp131⟩:=bind_some' hp121
      try dsimp only at hp131
      have hS132:=hS126.pick1
      obtain ⟨Z133,hz134,hS135,hs136,hb137⟩:=hS132.lendrow len_api_Node (by omega)
      have hS138:=hS135.pick1
      refine rC (weirref06_reader__sign.ok hr130 hS138 (y11.up hz134) hs136) ?_
      rintro _ w139 ⟨rfl,hS140⟩
      refine ⟨_,rfl,?_⟩
      have hS141:=hb137 _ _ hS140
      refine sR 3 (.inRegion (opsOf p153_16) [1,2,3]::td331) ?_
      obtain ⟨⟨t142,t143,t144,t145⟩,hr146,hp147⟩:=bind_some' hp131
      try dsimp only at hp147
      obtain ⟨Z148,hz149,hS150,hs151,hb152⟩:=hS141.lendrow len_api_Node (by omega)
      refine rC (weirref06_reader__name.ok hr146 hS150 (y11.up hz149) hs151) ?_
      rintro _ w153 ⟨rfl,hS154⟩
      refine ⟨_,rfl,?_⟩
      have hS155:=hb152 _ _ hS154
      refine sR 1 (.inRegion (opsOf p153_16) [3]::td331) ?_
      have hS156:=hS155.pick2
      refine rS 9 (.tmp 68) (.tmp 67) 1 (.string t142) [.string t142] (enc_api_Ref (⟨t119,t142⟩ : api_Ref)) hS156 ?_
      intro w157 hS158
      refine sR 2 td330 ?_
      have hS159:=hS158.pick1
      have hS160:=hS159.pick2
      exact rF _ (J31 t143 t144 t145 (⟨t119,t142⟩ : api_Ref) (Option.some.inj hp147) _ _ hS160)
     refine qR 2 [] ?_
     refine Qs.nil ?_
     intro w162 hS163
     refine sR 3 td333 ?_
     obtain ⟨⟨t164,t165,t166,t167⟩,hr168,hp169⟩:=bind_some' hp161
     try dsimp only at hp169
     obtain ⟨Z170,hz171,hS172,hs173,hb174⟩:=hS163.lendrow len_api_Node (by omega)
     refine rC (weirref06_reader__name.ok hr168 hS172 (y11.up hz171) hs173) ?_
     rintro _ w175 ⟨rfl,hS176⟩
     refine ⟨_,rfl,?_⟩
     have hS177:=hb174 _ _ hS176
     refine sR 1 td334 ?_
     have hS178:=hS177.pick2
     refine rS 9 (.tmp 8) (.tmp 7) 1 (.string t164) [.string t164] (enc_api_Ref (⟨(-1),t164⟩ : api_Ref)) hS178 ?_
     intro w179 hS180
     refine sR 2 td330 ?_
     have hS181:=hS180.pick1
     have hS182:=hS181.pick2
     exact rF _ (J31 t165 t166 t167 (⟨(-1),t164⟩ : api_Ref) (Option.some.inj hp169) _ _ hS182)
    refine qR 17 [] ?_
    refine Qs.nil ?_
    intro w184 hS185
    refine sR 3 td333 ?_
    obtain ⟨⟨t186,t187,t188,t189⟩,hr190,hp191⟩:=bind_some' hp183
    try dsimp only at hp191
    obtain ⟨Z192,hz193,hS194,hs195,hb196⟩:=hS185.lendrow len_api_Node (by omega)
    refine rC (weirref06_reader__name.ok hr190 hS194 (y11.up hz193) hs195) ?_
    rintro _ w197 ⟨rfl,hS198⟩
    refine ⟨_,rfl,?_⟩
    have hS199:=hb196 _ _ hS198
    refine sR 1 td334 ?_
    have hS200:=hS199.pick2
    refine rS 9 (.tmp 8) (.tmp 7) 1 (.string t186) [.string t186] (enc_api_Ref (⟨(-1),t186⟩ : api_Ref)) hS200 ?_
    intro w201 hS202
    refine sR 2 td330 ?_
    have hS203:=hS202.pick1
    have hS204:=hS203.pick2
    exact rF _ (J31 t187 t188 t189 (⟨(-1),t186⟩ : api_Ref) (Option.some.inj hp191) _ _ hS204)
   refine qR 30 [] ?_
   refine Qs.nil ?_
   intro w206 hS207
   refine sR 3 td333 ?_
   obtain ⟨⟨t208,t209,t210,t211⟩,hr212,hp213⟩:=bind_some' hp205
   try dsimp only at hp213
   obtain ⟨Z214,hz215,hS216,hs217,hb218⟩:=hS207.lendrow len_api_Node (by omega)
   refine rC (weirref06_reader__name.ok hr212 hS216 (y11.up hz215) hs217) ?_
   rintro _ w219 ⟨rfl,hS220⟩
   refine ⟨_,rfl,?_⟩
   have hS221:=hb218 _ _ hS220
   refine sR 1 td334 ?_
   have hS222:=hS221.pick2
   refine rS 9 (.tmp 8) (.tmp 7) 1 (.string t208) [.string t208] (enc_api_Ref (⟨(-1),t208⟩ : api_Ref)) hS222 ?_
   intro w223 hS224
   refine sR 2 td330 ?_
   have hS225:=hS224.pick1
   have hS226:=hS225.pick2
   exact rF _ (J31 t209 t210 t211 (⟨(-1),t208⟩ : api_Ref) (Option.some.inj hp213) _ _ hS226)
  have hp227:=ite_t hv23 rfl
  refine sR 4 (.inRegion (opsOf (cd153 [1,1,0,0,1,0,0])) [1]::.code (cd153 [1,1,0,0,1,0,1])::td331) ?_
  obtain ⟨⟨t228,t229,t230⟩,hr231,hp232⟩:=bind_some' hp227
  try dsimp only at hp232
  obtain ⟨Z233,hz234,hS235,hs236,hb237⟩:=hS21.lendrow len_api_Node (by omega)
  refine rC (weirref06_reader__take.ok hr231 hS235 (y11.up hz234) hs236) ?_
  rintro _ w238 ⟨rfl,hS239⟩
  refine ⟨_,rfl,?_⟩
  have hS240:=hb237 _ _ hS239
  refine sR 4 (.inRegion (opsOf (cd153 [1,1,0,0,1,0,1,0])) [1,2,3]::.code p153_21::td331) ?_
  obtain ⟨⟨t241,t242,t243,t244⟩,hr245,hp246⟩:=bind_some' hp232
  try dsimp only at hp246
  obtain ⟨Z247,hz248,hS249,hs250,hb251⟩:=hS240.lendrow len_api_Node (by omega)
  refine rC (weirref06_reader__name.ok hr245 hS249 (y11.up hz248) hs250) ?_
  rintro _ w252 ⟨rfl,hS253⟩
  refine ⟨_,rfl,?_⟩
  have hS254:=hb251 _ _ hS253
  refine sR 1 (.inRegion (opsOf (cd153 [1,1,0,0,1,0,1,0])) [3]::.code p153_21::td331) ?_
  have hS255:=hS254.pick2
  refine rS 9 (.tmp 16) (.tmp 15) 1 (.string t241) [.string t241] (enc_api_Ref (⟨(-1),t241⟩ : api_Ref)) hS255 ?_
  intro w256 hS257
  refine sR 3 (.inRegion (opsOf p153_21) [1]::td331) ?_
  obtain ⟨⟨t258,t259,t260⟩,hr261,hp262⟩:=bind_some' hp246
  try dsimp only at hp262
  have hS263:=hS257.pick1
  obtain ⟨Z264,hz265,hS266,hs267,hb268⟩:=hS263.lendrow len_api_Node (by omega)
  have hS269:=hS266.pick1
  refine rC (weirref06_reader__sign.ok hr261 hS269 (y11.up hz265) hs267) ?_
  rintro _ w270 ⟨rfl,hS271⟩
  refine ⟨_,rfl,?_⟩
  have hS272:=hb268 _ _ hS271
  refine sR 2 td330 ?_
  have hS273:=hS272.pick2
  have hS274:=hS273.pick1
  have hS275:=hS274.pick2
  exact rF _ (J31 t258 t259 t260 (⟨(-1),t241⟩ : api_Ref) (Option.some.inj hp262) _ _ hS275)

def weirref06_reader__not.Spec (rec : weirref06_reader → Option (Int × Int × api_Token × Int × (List api_Node) × weirref05_Fault)) : Prop:=∀ (a0v : weirref06_reader) (ba0 : Nat) (y7 : Option Addr) (y8 : Nat) (y9 : Option Addr) (y10 : Nat) {w0 : World} {Z : Zm} {fs : List XObj} {w : World} (_ : St w0 Z (xblk ba0 122 ([.slice y7 a0v.L.length y8,.int .i64 a0v.At] ++ (enc_api_Token a0v.Last) ++ [.int .i64 a0v.Deep,.slice y9 a0v.C.length y10] ++ (enc_weirref05_Fault a0v.F))::xrow y9 y10 68 6 (a0v.C.flatMap enc_api_Node)::fs) w) (_ : SlZ (flat enc_api_Token) 7 Z y7 y8 a0v.L) {q0 q1 : Int} {q2 : api_Token} {q3 : Int} {q4 : List api_Node} {q5 : weirref05_Fault},rec a0v = some (q0,q1,q2,q3,q4,q5) →
    Calls Tryz.prog 120 #[.pointer (some ⟨ba0,0,none⟩)] w (fun e w' => ∃ (QA0 : Option Addr) (Qc0 : Nat),e = .returned (.int .i64 q0) ∧ St w0 Z (xrow QA0 Qc0 68 6 (q4.flatMap enc_api_Node)::xblk ba0 122 ([.slice y7 a0v.L.length y8,.int .i64 q1] ++ (enc_api_Token q2) ++ [.int .i64 q3,.slice QA0 q4.length Qc0] ++ (enc_weirref05_Fault q5))::fs) w')

noncomputable def cd78 (p : List Nat) : Code := sub (bodyOf Tryz.f78) p
abbrev p78_11:=cd78 [1,1,0,0,0,1,0,1,1]
abbrev td335:List Item:=[.code (cd78 [1,1,1])]
abbrev td336:List Item:=.inBlock 0::td335
abbrev td337:List Item:=.inLoop (cd78 [1,1,0,0,0])::td336
abbrev td338:List Item:=.code (cd78 [1,1,0,0,0])::td337
abbrev td339:List Item:=.inBlock 1::td337
def weirref06_reader__and_2.l0 (rec_weirref06_reader__not : weirref06_reader → Option (Int × Int × api_Token × Int × (List api_Node) × weirref05_Fault)) (a0v : weirref06_reader) (t35 t36 : Int) (t37 : api_Token) (t38 : Int) (t39 : List api_Node) (t43 : weirref05_Fault) : Option (Int × Int × api_Token × Int × (List api_Node) × weirref05_Fault) :=
  (weirref06_reader__is.f (⟨a0v.L,t36,t37,t38,t39,t43⟩ : weirref06_reader) 0 4 (⟨#[47,92]⟩ : ByteArray) >>= (fun t53 => (if t53 = true then (weirref06_reader__take.f (⟨a0v.L,t36,t37,t38,t39,t43⟩ : weirref06_reader) >>= (fun (t70,t71,t72) => (rec_weirref06_reader__not (⟨a0v.L,t71,t72,t38,t39,t43⟩ : weirref06_reader) >>= (fun (t83,t84,t85,t86,t87,t88) => (weirref06_reader__node.f (⟨a0v.L,t84,t85,t86,t87,t88⟩ : weirref06_reader) (⟨4,t35,t83,(⟨0,(⟨#[]⟩ : ByteArray)⟩ : api_Ref),0⟩ : api_Node) >>= (fun (t97,t98,t99) => (weirref06_reader__and_2.l0 rec_weirref06_reader__not a0v t97 t84 t85 t86 t98 t99))))))) else some ((t35,t36,t37,t38,t39,t43)))))
 partial_fixpoint
def weirref06_reader__and_2.f (rec_weirref06_reader__not : weirref06_reader → Option (Int × Int × api_Token × Int × (List api_Node) × weirref05_Fault)) (a0v : weirref06_reader) : Option (Int × Int × api_Token × Int × (List api_Node) × weirref05_Fault) :=
  (rec_weirref06_reader__not a0v >>= (fun (t1,t2,t3,t4,t5,t6) => (weirref06_reader__and_2.l0 rec_weirref06_reader__not a0v t1 t2 t3 t4 t5 t6 >>= (fun (t19,t20,t21,t22,t23,t27) => some ((t19,t20,t21,t22,t23,t27))))))
theorem weirref06_reader__and_2.ok (rec_weirref06_reader__not : weirref06_reader → Option (Int × Int × api_Token × Int × (List api_Node) × weirref05_Fault)) (hrec_weirref06_reader__not : weirref06_reader__not.Spec rec_weirref06_reader__not) {a0v : weirref06_reader} {ba0 : Nat} {y7 : Option Addr} {y8 : Nat} {y9 : Option Addr} {y10 : Nat} {q0 q1 : Int} {q2 : api_Token} {q3 : Int} {q4 : List api_Node} {q5 : weirref05_Fault} (hp0 : weirref06_reader__and_2.f rec_weirref06_reader__not a0v = some (q0,q1,q2,q3,q4,q5)) (hS0 : St w0 Z (xblk ba0 122 ([.slice y7 a0v.L.length y8,.int .i64 a0v.At] ++ (enc_api_Token a0v.Last) ++ [.int .i64 a0v.Deep,.slice y9 a0v.C.length y10] ++ (enc_weirref05_Fault a0v.F))::xrow y9 y10 68 6 (a0v.C.flatMap enc_api_Node)::fs) w) (y11 : SlZ (flat enc_api_Token) 7 Z y7 y8 a0v.L) :
    Calls Tryz.prog 78 #[.pointer (some ⟨ba0,0,none⟩)] w (fun e w' => ∃ (QA0 : Option Addr) (Qc0 : Nat),e = .returned (.int .i64 q0) ∧ St w0 Z (xrow QA0 Qc0 68 6 (q4.flatMap enc_api_Node)::xblk ba0 122 ([.slice y7 a0v.L.length y8,.int .i64 q1] ++ (enc_api_Token q2) ++ [.int .i64 q3,.slice QA0 q4.length Qc0] ++ (enc_weirref05_Fault q5))::fs) w'):=by
  refine calls_abs ?_; intro R hR
  unfold weirref06_reader__and_2.f at hp0
  refine calls_of_runs (fn:=Tryz.f78) (c:=cd78 []) Tryz.func78 (by kernel_rfl) (al:=[.pointer (some ⟨ba0,0,none⟩)]) rfl (n:=18) rfl ?_
  refine sR 7 [.inRegion (opsOf (cd78 [1,0])) [1,2],.code (cd78 [1,1])] ?_
  obtain ⟨⟨t1,t2,t3,t4,t5,t6⟩,hr9,hp10⟩:=bind_some' hp0
  try dsimp only at hp10
  have hS12:=hS0.pick1
  have hS13:=hS12.pick1
  refine rC (hrec_weirref06_reader__not a0v ba0 y7 y8 y9 y10 hS13 y11 hr9) ?_
  rintro _ w14 ⟨Q7,Q8,rfl,hS15⟩
  refine ⟨_,rfl,?_⟩
  refine sR 5 td338 ?_
  obtain ⟨v16,hv17,hp18⟩:=bind_some' hp10
  have J30 : ∀ (t19 t20 : Int) (t21 : api_Token) (t22 : Int) (t23 : List api_Node) (t27 : weirref05_Fault) (he32 : (t19,t20,t21,t22,t23,t27) = v16) (l31 : List Value) (A24 : Option Addr) (c25 : Nat) (w28 : World) (hS29 : St w0 Z (xblk ba0 122 ([.slice y7 a0v.L.length y8,.int .i64 t20] ++ (enc_api_Token t21) ++ [.int .i64 t22,.slice A24 t23.length c25] ++ (enc_weirref05_Fault t27))::xrow A24 c25 68 6 (t23.flatMap enc_api_Node)::fs) w28),Runs Tryz.prog (fx 78) td335 (fill (mk 19 [(3,.int .i64 t19)]) l31) w28 R:=by
   intro t19 t20 t21 t22 t23 t27 he32 l31 A24 c25 w28 hS29
   subst he32
   try dsimp only at hp18
   refine sR 5 [.code (cd78 [1,1,1,1])] ?_
   have hS33:=hS29.pick1
   refine rR (.int .i64 t19) Tryz.func78 ?_
   cases Option.some.inj hp18
   exact hR _ _ ⟨A24,c25,rfl,hS33⟩
  have L52 : ∀ (t35 t36 : Int) (t37 : api_Token) (t38 : Int) (t39 : List api_Node) (t43 : weirref05_Fault) (e47 : (Int × Int × api_Token × Int × (List api_Node) × weirref05_Fault)),weirref06_reader__and_2.l0 rec_weirref06_reader__not a0v t35 t36 t37 t38 t39 t43 = some e47 → e47 = v16 → ∀ (l46 : List Value) (A40 : Option Addr) (c41 : Nat) (w44 : World) (hS45 : St w0 Z (xblk ba0 122 ([.slice y7 a0v.L.length y8,.int .i64 t36] ++ (enc_api_Token t37) ++ [.int .i64 t38,.slice A40 t39.length c41] ++ (enc_weirref05_Fault t43))::xrow A40 c41 68 6 (t39.flatMap enc_api_Node)::fs) w44),Runs Tryz.prog (fx 78) td338 (fill (mk 19 [(0,.pointer (some ⟨ba0,0,none⟩)),(3,.int .i64 t35)]) l46) w44 R:=by
   refine weirref06_reader__and_2.l0.partial_correctness rec_weirref06_reader__not a0v (fun t35 t36 t37 t38 t39 t43 e47 => e47 = v16 → ∀ (l46 : List Value) (A40 : Option Addr) (c41 : Nat) (w44 : World) (hS45 : St w0 Z (xblk ba0 122 ([.slice y7 a0v.L.length y8,.int .i64 t36] ++ (enc_api_Token t37) ++ [.int .i64 t38,.slice A40 t39.length c41] ++ (enc_weirref05_Fault t43))::xrow A40 c41 68 6 (t39.flatMap enc_api_Node)::fs) w44),Runs Tryz.prog (fx 78) td338 (fill (mk 19 [(0,.pointer (some ⟨ba0,0,none⟩)),(3,.int .i64 t35)]) l46) w44 R) ?_
   intro rec51 ih50 t35 t36 t37 t38 t39 t43 e47 hb49 he48 l46 A40 c41 w44 hS45
   refine sR 4 (.inRegion (opsOf (cd78 [1,1,0,0,0,0,0])) [1]::.code (cd78 [1,1,0,0,0,0,1])::.code (cd78 [1,1,0,0,0,1])::td337) ?_
   obtain ⟨t53,hr54,hp55⟩:=bind_some' hb49
   have hS58:=hS45.pick1
   obtain ⟨Z59,hz60,hS61,hs62,hb63⟩:=hS58.lendrow len_api_Node (by omega)
   refine rC (weirref06_reader__is.ok hr54 hS61 (y11.up hz60) hs62) ?_
   rintro _ w64 ⟨rfl,hS65⟩
   refine ⟨_,rfl,?_⟩
   have hS66:=hb63 _ _ hS65
   refine sR 1 (.code (cd78 [1,1,0,0,0,0,1])::.code (cd78 [1,1,0,0,0,1])::td337) ?_
   cases t53
   ·have hp67:=ite_f hp55 rfl
    refine sR 2 td335 ?_
    have hS68:=hS66.pick1
    exact rF _ (J30 t35 t36 t37 t38 t39 t43 ((Option.some.inj hp67).trans he48) _ A40 c41 _ hS68)
   have hp69:=ite_t hp55 rfl
   refine sR 6 (.inRegion (opsOf (cd78 [1,1,0,0,0,1,0,0])) [1]::.code (cd78 [1,1,0,0,0,1,0,1])::td339) ?_
   obtain ⟨⟨t70,t71,t72⟩,hr73,hp74⟩:=bind_some' hp69
   try dsimp only at hp74
   obtain ⟨Z75,hz76,hS77,hs78,hb79⟩:=hS66.lendrow len_api_Node (by omega)
   refine rC (weirref06_reader__take.ok hr73 hS77 (y11.up hz76) hs78) ?_
   rintro _ w80 ⟨rfl,hS81⟩
   refine ⟨_,rfl,?_⟩
   have hS82:=hb79 _ _ hS81
   refine sR 4 (.inRegion (opsOf (cd78 [1,1,0,0,0,1,0,1,0])) [1,2]::.code p78_11::td339) ?_
   obtain ⟨⟨t83,t84,t85,t86,t87,t88⟩,hr91,hp92⟩:=bind_some' hp74
   try dsimp only at hp92
   have hS94:=hS82.pick1
   refine rC (hrec_weirref06_reader__not (⟨a0v.L,t71,t72,t38,t39,t43⟩ : weirref06_reader) ba0 y7 y8 A40 c41 hS94 y11 hr91) ?_
   rintro _ w95 ⟨Q89,Q90,rfl,hS96⟩
   refine ⟨_,rfl,?_⟩
   refine sR 7 (.inRegion (opsOf p78_11) [4,5]::td339) ?_
   obtain ⟨⟨t97,t98,t99⟩,hr102,hp103⟩:=bind_some' hp92
   try dsimp only at hp103
   have hS105:=hS96.pick1
   refine rC (weirref06_reader__node.ok hr102 hS105 y11) ?_
   rintro _ w106 ⟨Q100,Q101,rfl,hS107⟩
   refine ⟨_,rfl,?_⟩
   refine sR 3 td337 ?_
   have hS108:=hS107.pick1
   refine sR 1 td338 ?_
   exact rF _ (ih50 t97 t84 t85 t86 t98 t99 _ hp103 he48 _ Q100 Q101 _ hS108)
  have hS109:=hS15.pick1
  exact rF _ (L52 t1 t2 t3 t4 t5 t6 _ hv17 rfl _ Q7 Q8 _ hS109)

noncomputable def cd49 (p : List Nat) : Code := sub (bodyOf Tryz.f49) p
abbrev p49_11:=cd49 [1,1,0,0,0,1,0,1,1]
abbrev td340:List Item:=[.code (cd49 [1,1,1])]
abbrev td341:List Item:=.inBlock 0::td340
abbrev td342:List Item:=.inLoop (cd49 [1,1,0,0,0])::td341
abbrev td343:List Item:=.code (cd49 [1,1,0,0,0])::td342
abbrev td344:List Item:=.inBlock 1::td342
def weirref06_reader__or_2.l0 (rec_weirref06_reader__not : weirref06_reader → Option (Int × Int × api_Token × Int × (List api_Node) × weirref05_Fault)) (a0v : weirref06_reader) (t35 t36 : Int) (t37 : api_Token) (t38 : Int) (t39 : List api_Node) (t43 : weirref05_Fault) : Option (Int × Int × api_Token × Int × (List api_Node) × weirref05_Fault) :=
  (weirref06_reader__is.f (⟨a0v.L,t36,t37,t38,t39,t43⟩ : weirref06_reader) 0 4 (⟨#[92,47]⟩ : ByteArray) >>= (fun t53 => (if t53 = true then (weirref06_reader__take.f (⟨a0v.L,t36,t37,t38,t39,t43⟩ : weirref06_reader) >>= (fun (t70,t71,t72) => (weirref06_reader__and_2.f rec_weirref06_reader__not (⟨a0v.L,t71,t72,t38,t39,t43⟩ : weirref06_reader) >>= (fun (t83,t84,t85,t86,t87,t88) => (weirref06_reader__node.f (⟨a0v.L,t84,t85,t86,t87,t88⟩ : weirref06_reader) (⟨5,t35,t83,(⟨0,(⟨#[]⟩ : ByteArray)⟩ : api_Ref),0⟩ : api_Node) >>= (fun (t97,t98,t99) => (weirref06_reader__or_2.l0 rec_weirref06_reader__not a0v t97 t84 t85 t86 t98 t99))))))) else some ((t35,t36,t37,t38,t39,t43)))))
 partial_fixpoint
def weirref06_reader__or_2.f (rec_weirref06_reader__not : weirref06_reader → Option (Int × Int × api_Token × Int × (List api_Node) × weirref05_Fault)) (a0v : weirref06_reader) : Option (Int × Int × api_Token × Int × (List api_Node) × weirref05_Fault) :=
  (weirref06_reader__and_2.f rec_weirref06_reader__not a0v >>= (fun (t1,t2,t3,t4,t5,t6) => (weirref06_reader__or_2.l0 rec_weirref06_reader__not a0v t1 t2 t3 t4 t5 t6 >>= (fun (t19,t20,t21,t22,t23,t27) => some ((t19,t20,t21,t22,t23,t27))))))
theorem weirref06_reader__or_2.ok (rec_weirref06_reader__not : weirref06_reader → Option (Int × Int × api_Token × Int × (List api_Node) × weirref05_Fault)) (hrec_weirref06_reader__not : weirref06_reader__not.Spec rec_weirref06_reader__not) {a0v : weirref06_reader} {ba0 : Nat} {y7 : Option Addr} {y8 : Nat} {y9 : Option Addr} {y10 : Nat} {q0 q1 : Int} {q2 : api_Token} {q3 : Int} {q4 : List api_Node} {q5 : weirref05_Fault} (hp0 : weirref06_reader__or_2.f rec_weirref06_reader__not a0v = some (q0,q1,q2,q3,q4,q5)) (hS0 : St w0 Z (xblk ba0 122 ([.slice y7 a0v.L.length y8,.int .i64 a0v.At] ++ (enc_api_Token a0v.Last) ++ [.int .i64 a0v.Deep,.slice y9 a0v.C.length y10] ++ (enc_weirref05_Fault a0v.F))::xrow y9 y10 68 6 (a0v.C.flatMap enc_api_Node)::fs) w) (y11 : SlZ (flat enc_api_Token) 7 Z y7 y8 a0v.L) :
    Calls Tryz.prog 49 #[.pointer (some ⟨ba0,0,none⟩)] w (fun e w' => ∃ (QA0 : Option Addr) (Qc0 : Nat),e = .returned (.int .i64 q0) ∧ St w0 Z (xrow QA0 Qc0 68 6 (q4.flatMap enc_api_Node)::xblk ba0 122 ([.slice y7 a0v.L.length y8,.int .i64 q1] ++ (enc_api_Token q2) ++ [.int .i64 q3,.slice QA0 q4.length Qc0] ++ (enc_weirref05_Fault q5))::fs) w'):=by
  refine calls_abs ?_; intro R hR
  unfold weirref06_reader__or_2.f at hp0
  refine calls_of_runs (fn:=Tryz.f49) (c:=cd49 []) Tryz.func49 (by kernel_rfl) (al:=[.pointer (some ⟨ba0,0,none⟩)]) rfl (n:=18) rfl ?_
  refine sR 7 [.inRegion (opsOf (cd49 [1,0])) [1,2],.code (cd49 [1,1])] ?_
  obtain ⟨⟨t1,t2,t3,t4,t5,t6⟩,hr9,hp10⟩:=bind_some' hp0
  try dsimp only at hp10
  have hS12:=hS0.pick1
  have hS13:=hS12.pick1
  refine rC (weirref06_reader__and_2.ok rec_weirref06_reader__not hrec_weirref06_reader__not hr9 hS13 y11) ?_
  rintro _ w14 ⟨Q7,Q8,rfl,hS15⟩
  refine ⟨_,rfl,?_⟩
  refine sR 5 td343 ?_
  obtain ⟨v16,hv17,hp18⟩:=bind_some' hp10
  have J30 : ∀ (t19 t20 : Int) (t21 : api_Token) (t22 : Int) (t23 : List api_Node) (t27 : weirref05_Fault) (he32 : (t19,t20,t21,t22,t23,t27) = v16) (l31 : List Value) (A24 : Option Addr) (c25 : Nat) (w28 : World) (hS29 : St w0 Z (xblk ba0 122 ([.slice y7 a0v.L.length y8,.int .i64 t20] ++ (enc_api_Token t21) ++ [.int .i64 t22,.slice A24 t23.length c25] ++ (enc_weirref05_Fault t27))::xrow A24 c25 68 6 (t23.flatMap enc_api_Node)::fs) w28),Runs Tryz.prog (fx 49) td340 (fill (mk 19 [(3,.int .i64 t19)]) l31) w28 R:=by
   intro t19 t20 t21 t22 t23 t27 he32 l31 A24 c25 w28 hS29
   subst he32
   try dsimp only at hp18
   refine sR 5 [.code (cd49 [1,1,1,1])] ?_
   have hS33:=hS29.pick1
   refine rR (.int .i64 t19) Tryz.func49 ?_
   cases Option.some.inj hp18
   exact hR _ _ ⟨A24,c25,rfl,hS33⟩
  have L52 : ∀ (t35 t36 : Int) (t37 : api_Token) (t38 : Int) (t39 : List api_Node) (t43 : weirref05_Fault) (e47 : (Int × Int × api_Token × Int × (List api_Node) × weirref05_Fault)),weirref06_reader__or_2.l0 rec_weirref06_reader__not a0v t35 t36 t37 t38 t39 t43 = some e47 → e47 = v16 → ∀ (l46 : List Value) (A40 : Option Addr) (c41 : Nat) (w44 : World) (hS45 : St w0 Z (xblk ba0 122 ([.slice y7 a0v.L.length y8,.int .i64 t36] ++ (enc_api_Token t37) ++ [.int .i64 t38,.slice A40 t39.length c41] ++ (enc_weirref05_Fault t43))::xrow A40 c41 68 6 (t39.flatMap enc_api_Node)::fs) w44),Runs Tryz.prog (fx 49) td343 (fill (mk 19 [(0,.pointer (some ⟨ba0,0,none⟩)),(3,.int .i64 t35)]) l46) w44 R:=by
   refine weirref06_reader__or_2.l0.partial_correctness rec_weirref06_reader__not a0v (fun t35 t36 t37 t38 t39 t43 e47 => e47 = v16 → ∀ (l46 : List Value) (A40 : Option Addr) (c41 : Nat) (w44 : World) (hS45 : St w0 Z (xblk ba0 122 ([.slice y7 a0v.L.length y8,.int .i64 t36] ++ (enc_api_Token t37) ++ [.int .i64 t38,.slice A40 t39.length c41] ++ (enc_weirref05_Fault t43))::xrow A40 c41 68 6 (t39.flatMap enc_api_Node)::fs) w44),Runs Tryz.prog (fx 49) td343 (fill (mk 19 [(0,.pointer (some ⟨ba0,0,none⟩)),(3,.int .i64 t35)]) l46) w44 R) ?_
   intro rec51 ih50 t35 t36 t37 t38 t39 t43 e47 hb49 he48 l46 A40 c41 w44 hS45
   refine sR 4 (.inRegion (opsOf (cd49 [1,1,0,0,0,0,0])) [1]::.code (cd49 [1,1,0,0,0,0,1])::.code (cd49 [1,1,0,0,0,1])::td342) ?_
   obtain ⟨t53,hr54,hp55⟩:=bind_some' hb49
   have hS58:=hS45.pick1
   obtain ⟨Z59,hz60,hS61,hs62,hb63⟩:=hS58.lendrow len_api_Node (by omega)
   refine rC (weirref06_reader__is.ok hr54 hS61 (y11.up hz60) hs62) ?_
   rintro _ w64 ⟨rfl,hS65⟩
   refine ⟨_,rfl,?_⟩
   have hS66:=hb63 _ _ hS65
   refine sR 1 (.code (cd49 [1,1,0,0,0,0,1])::.code (cd49 [1,1,0,0,0,1])::td342) ?_
   cases t53
   ·have hp67:=ite_f hp55 rfl
    refine sR 2 td340 ?_
    have hS68:=hS66.pick1
    exact rF _ (J30 t35 t36 t37 t38 t39 t43 ((Option.some.inj hp67).trans he48) _ A40 c41 _ hS68)
   have hp69:=ite_t hp55 rfl
   refine sR 6 (.inRegion (opsOf (cd49 [1,1,0,0,0,1,0,0])) [1]::.code (cd49 [1,1,0,0,0,1,0,1])::td344) ?_
   obtain ⟨⟨t70,t71,t72⟩,hr73,hp74⟩:=bind_some' hp69
   try dsimp only at hp74
   obtain ⟨Z75,hz76,hS77,hs78,hb79⟩:=hS66.lendrow len_api_Node (by omega)
   refine rC (weirref06_reader__take.ok hr73 hS77 (y11.up hz76) hs78) ?_
   rintro _ w80 ⟨rfl,hS81⟩
   refine ⟨_,rfl,?_⟩
   have hS82:=hb79 _ _ hS81
   refine sR 4 (.inRegion (opsOf (cd49 [1,1,0,0,0,1,0,1,0])) [1,2]::.code p49_11::td344) ?_
   obtain ⟨⟨t83,t84,t85,t86,t87,t88⟩,hr91,hp92⟩:=bind_some' hp74
   try dsimp only at hp92
   have hS94:=hS82.pick1
   refine rC (weirref06_reader__and_2.ok rec_weirref06_reader__not hrec_weirref06_reader__not hr91 hS94 y11) ?_
   rintro _ w95 ⟨Q89,Q90,rfl,hS96⟩
   refine ⟨_,rfl,?_⟩
   refine sR 7 (.inRegion (opsOf p49_11) [4,5]::td344) ?_
   obtain ⟨⟨t97,t98,t99⟩,hr102,hp103⟩:=bind_some' hp92
   try dsimp only at hp103
   have hS105:=hS96.pick1
   refine rC (weirref06_reader__node.ok hr102 hS105 y11) ?_
   rintro _ w106 ⟨Q100,Q101,rfl,hS107⟩
   refine ⟨_,rfl,?_⟩
   refine sR 3 td342 ?_
   have hS108:=hS107.pick1
   refine sR 1 td343 ?_
   exact rF _ (ih50 t97 t84 t85 t86 t98 t99 _ hp103 he48 _ Q100 Q101 _ hS108)
  have hS109:=hS15.pick1
  exact rF _ (L52 t1 t2 t3 t4 t5 t6 _ hv17 rfl _ Q7 Q8 _ hS109)

noncomputable def cd120 (p : List Nat) : Code := sub (bodyOf Tryz.f120) p
abbrev p120_9:=cd120 [1,0,0,1,1,1,1,1,1,0]
abbrev p120_14:=cd120 [1,0,0,1,1,1,1,1,1,1,0,1,1]
abbrev p120_21:=cd120 [1,0,0,1,1,1,1,1,0,1,1,1,0]
abbrev p120_22:=cd120 [1,0,0,1,1,1,1,1,0,1,1,1,1]
abbrev p120_23:=cd120 [1,0,0,1,1,1,1,1,0,1,1,1,1,1]
abbrev p120_28:=cd120 [1,0,0,1,1,1,0,1,1,0]
abbrev p120_29:=cd120 [1,0,0,1,1,1,0,1,1,1]
abbrev p120_31:=cd120 [1,0,0,1,1,1,0,1,1,1,1]
abbrev td345:List Item:=[.code (cd120 [1,1])]
abbrev td346:List Item:=.inBlock 0::td345
abbrev td347:List Item:=.code (cd120 [1,0,0,1,1,1,1,1,1,1])::td346
def weirref06_reader__not.body (rec_weirref06_reader__not : weirref06_reader → Option (Int × Int × api_Token × Int × (List api_Node) × weirref05_Fault)) (a0v : weirref06_reader) : Option (Int × Int × api_Token × Int × (List api_Node) × weirref05_Fault) :=
  (weirref06_reader__bad.f a0v >>= (fun t1 => (((if t1 = true then some (.inr ((0,a0v.At,a0v.Last,a0v.Deep,a0v.C,a0v.F))) else (weirref06_reader__is.f a0v 0 4 (⟨#[126]⟩ : ByteArray) >>= (fun t40 => (if t40 = true then (weirref06_reader__opens.f a0v >>= (fun (t175,t176,t177,t178) => (rec_weirref06_reader__not (⟨a0v.L,t175,t176,t177,a0v.C,t178⟩ : weirref06_reader) >>= (fun (t189,t190,t191,t192,t193,t194) => (weirref06_reader__node.f (⟨a0v.L,t190,t191,(IntKind.i64.wrap (t192 - 1)),t193,t194⟩ : weirref06_reader) (⟨3,t189,0,(⟨0,(⟨#[]⟩ : ByteArray)⟩ : api_Ref),0⟩ : api_Node) >>= (fun (t206,t207,t208) => some (.inr ((t206,t190,t191,(IntKind.i64.wrap (t192 - 1)),t207,t208))))))))) else (weirref06_reader__is.f a0v 0 4 (⟨#[40]⟩ : ByteArray) >>= (fun t54 => (if t54 = true then (weirref06_reader__opens.f a0v >>= (fun (t128,t129,t130,t131) => (weirref06_reader__or_2.f rec_weirref06_reader__not (⟨a0v.L,t128,t129,t130,a0v.C,t131⟩ : weirref06_reader) >>= (fun (t142,t143,t144,t145,t146,t147) => (weirref06_reader__sign.f (⟨a0v.L,t143,t144,t145,t146,t147⟩ : weirref06_reader) (⟨#[41]⟩ : ByteArray) >>= (fun (t156,t157,t158) => some (.inr ((t142,t156,t157,(IntKind.i64.wrap (t145 - 1)),t146,t158))))))))) else (weirref06_reader__is.f a0v 0 1 (⟨#[116,114,117,101]⟩ : ByteArray) >>= (fun t68 => (if t68 = true then (weirref06_reader__is.f a0v 1 4 (⟨#[61]⟩ : ByteArray) >>= (fun t84 => (if (!t84) = true then (weirref06_reader__take.f a0v >>= (fun (t100,t101,t102) => (weirref06_reader__node.f (⟨a0v.L,t101,t102,a0v.Deep,a0v.C,a0v.F⟩ : weirref06_reader) (⟨1,0,0,(⟨0,(⟨#[]⟩ : ByteArray)⟩ : api_Ref),0⟩ : api_Node) >>= (fun (t113,t114,t115) => some (.inr ((t113,t101,t102,a0v.Deep,t114,t115))))))) else some (.inl ())))) else some (.inl ()))))))))))) : Option (Sum Unit (Int × Int × api_Token × Int × (List api_Node) × weirref05_Fault))) >>= (fun | .inl () => (weirref06_reader__equation.f a0v >>= (fun (t24,t25,t26,t27,t28) => some ((t24,t25,t26,a0v.Deep,t27,t28)))) | .inr e => some e))))
theorem weirref06_reader__not.bok (rec_weirref06_reader__not : weirref06_reader → Option (Int × Int × api_Token × Int × (List api_Node) × weirref05_Fault)) (hrec_weirref06_reader__not : weirref06_reader__not.Spec rec_weirref06_reader__not) : weirref06_reader__not.Spec (weirref06_reader__not.body rec_weirref06_reader__not):=by
  intro a0v ba0 y7 y8 y9 y10 w0 Z fs w hS0 y11 q0 q1 q2 q3 q4 q5 hp0
  refine calls_abs ?_; intro R hR
  unfold weirref06_reader__not.body at hp0
  refine calls_of_runs (fn:=Tryz.f120) (c:=cd120 []) Tryz.func120 (by kernel_rfl) (al:=[.pointer (some ⟨ba0,0,none⟩)]) rfl (n:=57) rfl ?_
  refine sR 9 (.inRegion (opsOf (cd120 [1,0,0,0])) [1,2]::.code (cd120 [1,0,0,1])::td346) ?_
  obtain ⟨t1,hr2,hp3⟩:=bind_some' hp0
  have hS6:=hS0.pick1
  obtain ⟨Z7,hz8,hS9,hs10,hb11⟩:=hS6.lendrow len_api_Node (by omega)
  refine rC (weirref06_reader__bad.ok hr2 hS9 (y11.up hz8) hs10) ?_
  rintro _ w12 ⟨rfl,hS13⟩
  refine ⟨_,rfl,?_⟩
  have hS14:=hb11 _ _ hS13
  refine sR 2 (.code (cd120 [1,0,0,1])::td346) ?_
  obtain ⟨v15,hv16,hp17⟩:=bind_some' hp3
  have hq20 : ∀ x,Sum.inr x = v15 → x = (q0,q1,q2,q3,q4,q5):=by intro x hx; subst hx; simpa using hp17
  have J21 : ∀ (he23 : Sum.inl () = v15) (l22 : List Value) (w18 : World) (hS19 : St w0 Z (xblk ba0 122 ([.slice y7 a0v.L.length y8,.int .i64 a0v.At] ++ (enc_api_Token a0v.Last) ++ [.int .i64 a0v.Deep,.slice y9 a0v.C.length y10] ++ (enc_weirref05_Fault a0v.F))::xrow y9 y10 68 6 (a0v.C.flatMap enc_api_Node)::fs) w18),Runs Tryz.prog (fx 120) td345 (fill (mk 58 [(0,.pointer (some ⟨ba0,0,none⟩))]) l22) w18 R:=by
   intro he23 l22 w18 hS19
   subst he23
   try dsimp only at hp17
   refine sR 3 [.inRegion (opsOf (cd120 [1,1,0])) [1,2],.code (cd120 [1,1,1])] ?_
   obtain ⟨⟨t24,t25,t26,t27,t28⟩,hr31,hp32⟩:=bind_some' hp17
   try dsimp only at hp32
   have hS34:=hS19.pick1
   have hS35:=hS34.pick1
   refine rC (weirref06_reader__equation.ok hr31 hS35 y11) ?_
   rintro _ w36 ⟨Q29,Q30,rfl,hS37⟩
   refine ⟨_,rfl,?_⟩
   refine sR 2 [.code (cd120 [1,1,1])] ?_
   refine rR (.int .i64 t24) Tryz.func120 ?_
   cases Option.some.inj hp32
   exact hR _ _ ⟨Q29,Q30,rfl,hS37⟩
  cases t1
  ·have hp39:=ite_f hv16 rfl
   refine sR 4 (.inRegion (opsOf (cd120 [1,0,0,1,1,0])) [1,2]::.code (cd120 [1,0,0,1,1,1])::td346) ?_
   obtain ⟨t40,hr41,hp42⟩:=bind_some' hp39
   obtain ⟨Z45,hz46,hS47,hs48,hb49⟩:=hS14.lendrow len_api_Node (by omega)
   refine rC (weirref06_reader__is.ok hr41 hS47 (y11.up hz46) hs48) ?_
   rintro _ w50 ⟨rfl,hS51⟩
   refine ⟨_,rfl,?_⟩
   have hS52:=hb49 _ _ hS51
   refine sR 2 (.code (cd120 [1,0,0,1,1,1])::td346) ?_
   cases t40
   ·have hp53:=ite_f hp42 rfl
    refine sR 4 (.inRegion (opsOf (cd120 [1,0,0,1,1,1,1,0])) [1,2]::.code (cd120 [1,0,0,1,1,1,1,1])::td346) ?_
    obtain ⟨t54,hr55,hp56⟩:=bind_some' hp53
    obtain ⟨Z59,hz60,hS61,hs62,hb63⟩:=hS52.lendrow len_api_Node (by omega)
    refine rC (weirref06_reader__is.ok hr55 hS61 (y11.up hz60) hs62) ?_
    rintro _ w64 ⟨rfl,hS65⟩
    refine ⟨_,rfl,?_⟩
    have hS66:=hb63 _ _ hS65
    refine sR 2 (.code (cd120 [1,0,0,1,1,1,1,1])::td346) ?_
    cases t54
    ·have hp67:=ite_f hp56 rfl
     refine sR 4 (iR p120_9 1 7::td347) ?_
     obtain ⟨t68,hr69,hp70⟩:=bind_some' hp67
     obtain ⟨Z73,hz74,hS75,hs76,hb77⟩:=hS66.lendrow len_api_Node (by omega)
     refine rC (weirref06_reader__is.ok hr69 hS75 (y11.up hz74) hs76) ?_
     rintro _ w78 ⟨rfl,hS79⟩
     refine ⟨_,rfl,?_⟩
     have hS80:=hb77 _ _ hS79
     refine sR 1 (iR p120_9 3 5::td347) ?_
     cases t68
     ·have hp81:=ite_f hp70 rfl
      refine sR 9 td345 ?_
      have hS82:=hS80.pick1
      exact rF _ (J21 (Option.some.inj hp81) _ _ hS82)
     have hp83:=ite_t hp70 rfl
     refine sR 1 (iR p120_9 4 4::td347) ?_
     obtain ⟨t84,hr85,hp86⟩:=bind_some' hp83
     obtain ⟨Z89,hz90,hS91,hs92,hb93⟩:=hS80.lendrow len_api_Node (by omega)
     refine rC (weirref06_reader__is.ok hr85 hS91 (y11.up hz90) hs92) ?_
     rintro _ w94 ⟨rfl,hS95⟩
     refine ⟨_,rfl,?_⟩
     have hS96:=hb93 _ _ hS95
     refine sI 1 (.inRegion (opsOf p120_9) [6,7]::td347) 49 hp86 (fun hp99 => ?_) fun hp125 => ?_
     ·refine sR 7 (.inRegion (opsOf (cd120 [1,0,0,1,1,1,1,1,1,1,0,0])) [1]::.code (cd120 [1,0,0,1,1,1,1,1,1,1,0,1])::td346) ?_
      obtain ⟨⟨t100,t101,t102⟩,hr103,hp104⟩:=bind_some' hp99
      try dsimp only at hp104
      obtain ⟨Z105,hz106,hS107,hs108,hb109⟩:=hS96.lendrow len_api_Node (by omega)
      refine rC (weirref06_reader__take.ok hr103 hS107 (y11.up hz106) hs108) ?_
      rintro _ w110 ⟨rfl,hS111⟩
      refine ⟨_,rfl,?_⟩
      have hS112:=hb109 _ _ hS111
      refine sR 5 (.inRegion (opsOf (cd120 [1,0,0,1,1,1,1,1,1,1,0,1,0])) [2,3]::.code p120_14::td346) ?_
      obtain ⟨⟨t113,t114,t115⟩,hr118,hp119⟩:=bind_some' hp104
      try dsimp only at hp119
      have hS121:=hS112.pick1
      refine rC (weirref06_reader__node.ok hr118 hS121 y11) ?_
      rintro _ w122 ⟨Q116,Q117,rfl,hS123⟩
      refine ⟨_,rfl,?_⟩
      refine sR 2 (.code p120_14::td346) ?_
      refine r_isret (c:=p120_14) (by kernel_rfl) ?_
      refine rR (.int .i64 t113) Tryz.func120 ?_
      cases hq20 _ (Option.some.inj hp119)
      exact hR _ _ ⟨Q116,Q117,rfl,hS123⟩
     refine sR 6 td345 ?_
     have hS126:=hS96.pick1
     exact rF _ (J21 (Option.some.inj hp125) _ _ hS126)
    have hp127:=ite_t hp56 rfl
    refine sR 4 (.inRegion (opsOf (cd120 [1,0,0,1,1,1,1,1,0,0])) [1]::.code (cd120 [1,0,0,1,1,1,1,1,0,1])::td346) ?_
    obtain ⟨⟨t128,t129,t130,t131⟩,hr132,hp133⟩:=bind_some' hp127
    try dsimp only at hp133
    obtain ⟨Z134,hz135,hS136,hs137,hb138⟩:=hS66.lendrow len_api_Node (by omega)
    refine rC (weirref06_reader__opens.ok hr132 hS136 (y11.up hz135) hs137) ?_
    rintro _ w139 ⟨rfl,hS140⟩
    refine ⟨_,rfl,?_⟩
    have hS141:=hb138 _ _ hS140
    refine sR 4 (.inRegion (opsOf (cd120 [1,0,0,1,1,1,1,1,0,1,0])) [1,2]::.code (cd120 [1,0,0,1,1,1,1,1,0,1,1])::td346) ?_
    obtain ⟨⟨t142,t143,t144,t145,t146,t147⟩,hr150,hp151⟩:=bind_some' hp133
    try dsimp only at hp151
    have hS153:=hS141.pick1
    refine rC (weirref06_reader__or_2.ok rec_weirref06_reader__not hrec_weirref06_reader__not hr150 hS153 y11) ?_
    rintro _ w154 ⟨Q148,Q149,rfl,hS155⟩
    refine ⟨_,rfl,?_⟩
    refine sR 5 (.inRegion (opsOf (cd120 [1,0,0,1,1,1,1,1,0,1,1,0])) [1]::.code (cd120 [1,0,0,1,1,1,1,1,0,1,1,1])::td346) ?_
    obtain ⟨⟨t156,t157,t158⟩,hr159,hp160⟩:=bind_some' hp151
    try dsimp only at hp160
    obtain ⟨Z161,hz162,hS163,hs164,hb165⟩:=hS155.lendrow len_api_Node (by omega)
    refine rC (weirref06_reader__sign.ok hr159 hS163 (y11.up hz162) hs164) ?_
    rintro _ w166 ⟨rfl,hS167⟩
    refine ⟨_,rfl,?_⟩
    have hS168:=hb165 _ _ hS167
    refine sR 6 (iR p120_21 3 5::.code p120_22::td346) ?_
    refine rL1 3 (.tmp 37) 9 (hS168.blk 1 rfl) ?_
    refine sR 3 (.inRegion (opsOf p120_21) [7]::.code p120_22::td346) ?_
    have hS169:=hS168.pick1
    refine rS 3 (.tmp 41) (.tmp 39) 9 (.int .i64 (IntKind.i64.wrap (t145 - 1))) [.int .i64 (IntKind.i64.wrap (t145 - 1))] ([.slice y7 a0v.L.length y8,.int .i64 t156] ++ (enc_api_Token t157) ++ [.int .i64 (IntKind.i64.wrap (t145 - 1)),.slice Q148 t146.length Q149] ++ (enc_weirref05_Fault t158)) hS169 ?_
    intro w170 hS171
    refine sR 6 (.code p120_23::td346) ?_
    refine r_isret (c:=p120_23) (by kernel_rfl) ?_
    have hS172:=hS171.pick1
    refine rR (.int .i64 t142) Tryz.func120 ?_
    cases hq20 _ (Option.some.inj hp160)
    exact hR _ _ ⟨Q148,Q149,rfl,hS172⟩
   have hp174:=ite_t hp42 rfl
   refine sR 4 (.inRegion (opsOf (cd120 [1,0,0,1,1,1,0,0])) [1]::.code (cd120 [1,0,0,1,1,1,0,1])::td346) ?_
   obtain ⟨⟨t175,t176,t177,t178⟩,hr179,hp180⟩:=bind_some' hp174
   try dsimp only at hp180
   obtain ⟨Z181,hz182,hS183,hs184,hb185⟩:=hS52.lendrow len_api_Node (by omega)
   refine rC (weirref06_reader__opens.ok hr179 hS183 (y11.up hz182) hs184) ?_
   rintro _ w186 ⟨rfl,hS187⟩
   refine ⟨_,rfl,?_⟩
   have hS188:=hb185 _ _ hS187
   refine sR 4 (.inRegion (opsOf (cd120 [1,0,0,1,1,1,0,1,0])) [1,2]::.code (cd120 [1,0,0,1,1,1,0,1,1])::td346) ?_
   obtain ⟨⟨t189,t190,t191,t192,t193,t194⟩,hr197,hp198⟩:=bind_some' hp180
   try dsimp only at hp198
   have hS200:=hS188.pick1
   refine rC (hrec_weirref06_reader__not (⟨a0v.L,t175,t176,t177,a0v.C,t178⟩ : weirref06_reader) ba0 y7 y8 y9 y10 hS200 y11 hr197) ?_
   rintro _ w201 ⟨Q195,Q196,rfl,hS202⟩
   refine ⟨_,rfl,?_⟩
   refine sR 7 (iR p120_28 3 5::.code p120_29::td346) ?_
   refine rL1 3 (.tmp 17) 9 (hS202.blk 1 rfl) ?_
   refine sR 3 (.inRegion (opsOf p120_28) [7]::.code p120_29::td346) ?_
   have hS203:=hS202.pick1
   refine rS 3 (.tmp 21) (.tmp 19) 9 (.int .i64 (IntKind.i64.wrap (t192 - 1))) [.int .i64 (IntKind.i64.wrap (t192 - 1))] ([.slice y7 a0v.L.length y8,.int .i64 t190] ++ (enc_api_Token t191) ++ [.int .i64 (IntKind.i64.wrap (t192 - 1)),.slice Q195 t193.length Q196] ++ (enc_weirref05_Fault t194)) hS203 ?_
   intro w204 hS205
   refine sR 6 (.inRegion (opsOf (cd120 [1,0,0,1,1,1,0,1,1,1,0])) [3,4]::.code p120_31::td346) ?_
   obtain ⟨⟨t206,t207,t208⟩,hr211,hp212⟩:=bind_some' hp198
   try dsimp only at hp212
   have hS214:=hS205.pick1
   have hS215:=hS214.pick1
   refine rC (weirref06_reader__node.ok hr211 hS215 y11) ?_
   rintro _ w216 ⟨Q209,Q210,rfl,hS217⟩
   refine ⟨_,rfl,?_⟩
   refine sR 2 (.code p120_31::td346) ?_
   refine rR (.int .i64 t206) Tryz.func120 ?_
   cases hq20 _ (Option.some.inj hp212)
   exact hR _ _ ⟨Q209,Q210,rfl,hS217⟩
  have hp219:=ite_t hv16 rfl
  refine sR 5 (.code (cd120 [1,0,0,1,0,1])::td346) ?_
  refine rR (.int .i64 0) Tryz.func120 ?_
  cases hq20 _ (Option.some.inj hp219)
  exact hR _ _ ⟨y9,y10,rfl,hS14⟩
def weirref06_reader__not.f : Nat → weirref06_reader → Option (Int × Int × api_Token × Int × (List api_Node) × weirref05_Fault)
  | 0 => fun _ => none
  | n + 1 => weirref06_reader__not.body (weirref06_reader__not.f n)
theorem weirref06_reader__not.all : ∀ n,weirref06_reader__not.Spec (weirref06_reader__not.f n)
  | 0 => by
    intro a0v ba0 y7 y8 y9 y10 w0 Z fs w hS0 y11 q0 q1 q2 q3 q4 q5 hp0
    cases hp0
  | n + 1 => weirref06_reader__not.bok (weirref06_reader__not.f n) (weirref06_reader__not.all n)
theorem weirref06_reader__not.ok : weirref06_reader__not.Spec (weirref06_reader__not.f fuelN):=weirref06_reader__not.all fuelN

noncomputable def cd30 (p : List Nat) : Code := sub (bodyOf Tryz.f30) p
abbrev p30_13:=cd30 [1,1,1,1,1]
abbrev td348:List Item:=[.code (cd30 [1,1])]
abbrev td349:List Item:=.code (cd30 [1,0,1,0,1])::td348
def weirref06_Take.f (a0 : List api_Token) (a1 : Int) : Option ((List api_Node) × Int × weirref05_Fault) :=
  (if (decide (a1 < 0)) = true then some (([],0,(⟨(-1),0,4⟩ : weirref05_Fault))) else (if (decide (a1 > (a0.length : Int))) = true then some (([],0,(⟨(-1),0,4⟩ : weirref05_Fault))) else (weirref06_reader__or_2.f (weirref06_reader__not.f fuelN) (⟨a0,a1,(⟨0,(⟨#[]⟩ : ByteArray),0,0,0,0,0⟩ : api_Token),0,([] : List api_Node),(⟨0,0,0⟩ : weirref05_Fault)⟩ : weirref06_reader) >>= (fun (t33,t34,t35,t36,t37,t38) => (weirref06_reader__bad.f (⟨a0,t34,t35,t36,t37,t38⟩ : weirref06_reader) >>= (fun t47 => (if t47 = true then some (([],0,t38)) else some ((t37,t34,(⟨0,0,0⟩ : weirref05_Fault))))))))))
theorem weirref06_Take.ok {a0 : List api_Token} {a1 : Int} {Aa0 : Option Addr} {ca0 : Nat} {q0 : List api_Node} {q1 : Int} {q2 : weirref05_Fault} (hp0 : weirref06_Take.f a0 a1 = some (q0,q1,q2)) (hS0 : St w0 Z (fs) w) (ha0 : SlZ (flat enc_api_Token) 7 Z Aa0 ca0 a0) :
    Calls Tryz.prog 30 #[.slice Aa0 a0.length ca0,.int .i64 a1] w (fun e w' => ∃ (QA0 : Option Addr) (Qc0 : Nat),e = .returned (.tuple #[.slice QA0 q0.length Qc0,.int .i64 q1,.agg (enc_weirref05_Fault q2).toArray]) ∧ St w0 Z (xrow QA0 Qc0 68 6 (q0.flatMap enc_api_Node)::fs) w'):=by
  refine calls_abs ?_; intro R hR
  unfold weirref06_Take.f at hp0
  refine calls_of_runs (fn:=Tryz.f30) (c:=cd30 []) Tryz.func30 (by kernel_rfl) (al:=[.slice Aa0 a0.length ca0,.int .i64 a1]) rfl (n:=36) rfl ?_
  refine sR 4 [.inRegion (opsOf (cd30 [0])) [2],.code (cd30 [1])] ?_
  refine rA 29 (.agg (enc_weirref05_Fault (⟨0,0,0⟩ : weirref05_Fault)).toArray) (enc_weirref05_Fault (⟨0,0,0⟩ : weirref05_Fault)) hS0 ?_
  intro b1 w2 hS3
  refine sI 6 (iR (cd30 [1,0,0]) 2 6::.code (cd30 [1,0,1])::td348) 9 hp0 (fun hp7 => ?_) fun hp15 => ?_
  ·refine sR 13 (.inRegion (opsOf (cd30 [1,0,1,0,0])) [3]::td349) ?_
   refine rSA 29 (.tmp 6) (.tmp 16) (enc_weirref05_Fault (⟨(-1),0,4⟩ : weirref05_Fault)) hS3 (one_weirref05_Fault _) ?_
   intro w8 hS9
   refine sR 1 td349 ?_
   have hS11:=hS9.nilrow none 68 6
   have hS12:=hS11.pick1
   have hS13:=hS12.drop
   refine rRc (.tuple #[.slice none 0 0,.int .i64 0,.agg (enc_weirref05_Fault (⟨(-1),0,4⟩ : weirref05_Fault)).toArray]) (.tm 4 (.tm 5 (.ca 6 29 (hS9.blk 0 rfl) .nil))) Tryz.func30 ?_
   cases Option.some.inj hp7
   exact hR _ _ ⟨none,0,rfl,hS13⟩
  refine sI 5 (.inRegion (opsOf (cd30 [1,0,0])) [7]::.code (cd30 [1,0,1])::td348) 14 hp15 (fun hp18 => ?_) fun hp26 => ?_
  ·refine sR 8 (.inRegion (opsOf (cd30 [1,0,1,0,0])) [3]::td349) ?_
   refine rSA 29 (.tmp 6) (.tmp 16) (enc_weirref05_Fault (⟨(-1),0,4⟩ : weirref05_Fault)) hS3 (one_weirref05_Fault _) ?_
   intro w19 hS20
   refine sR 1 td349 ?_
   have hS22:=hS20.nilrow none 68 6
   have hS23:=hS22.pick1
   have hS24:=hS23.drop
   refine rRc (.tuple #[.slice none 0 0,.int .i64 0,.agg (enc_weirref05_Fault (⟨(-1),0,4⟩ : weirref05_Fault)).toArray]) (.tm 4 (.tm 5 (.ca 6 29 (hS20.blk 0 rfl) .nil))) Tryz.func30 ?_
   cases Option.some.inj hp18
   exact hR _ _ ⟨none,0,rfl,hS24⟩
  refine sR 8 [.inRegion (opsOf (cd30 [1,1,0])) [2,3,4],.code (cd30 [1,1,1])] ?_
  refine rV (.build 122 #[(0,(.tmp 17)),(1,(.tmp 18))]) (.agg ([.slice Aa0 a0.length ca0,.int .i64 a1] ++ (enc_api_Token (⟨0,(⟨#[]⟩ : ByteArray),0,0,0,0,0⟩ : api_Token)) ++ [.int .i64 0,.slice none 0 0] ++ (enc_weirref05_Fault (⟨0,0,0⟩ : weirref05_Fault)) : List Value).toArray) (fun o ho _ => x_build (t:=122) (c:=([.slice Aa0 a0.length ca0,.int .i64 a1] ++ (enc_api_Token (⟨0,(⟨#[]⟩ : ByteArray),0,0,0,0,0⟩ : api_Token)) ++ [.int .i64 0,.slice none 0 0] ++ (enc_weirref05_Fault (⟨0,0,0⟩ : weirref05_Fault)) : List Value).toArray) (ps:=#[(0,(.tmp 17)),(1,(.tmp 18))]) Tryz.underlying122 hz_122 hp_122 (by kernel_rfl) ho) ?_
  refine r_box (c:=(cd30 [1,1,0])) (i:=3) (d:=(some 20)) (ty:=120) (x:=(.tmp 19)) (v:=.agg ([.slice Aa0 a0.length ca0,.int .i64 a1] ++ (enc_api_Token (⟨0,(⟨#[]⟩ : ByteArray),0,0,0,0,0⟩ : api_Token)) ++ [.int .i64 0,.slice none 0 0] ++ (enc_weirref05_Fault (⟨0,0,0⟩ : weirref05_Fault)) : List Value).toArray) (t:=122) (cs:=[.slice Aa0 a0.length ca0,.int .i64 a1] ++ (enc_api_Token (⟨0,(⟨#[]⟩ : ByteArray),0,0,0,0,0⟩ : api_Token)) ++ [.int .i64 0,.slice none 0 0] ++ (enc_weirref05_Fault (⟨0,0,0⟩ : weirref05_Fault))) hS3 (by kernel_rfl) (by kernel_rfl) (by kernel_rfl) (by kernel_rfl) ?_
  intro b27 w28 hS29
  refine sR 5 [.inRegion (opsOf (cd30 [1,1,1,0])) [1],.code (cd30 [1,1,1,1])] ?_
  have hS32:=hS29.nilrow none 68 6
  obtain ⟨⟨t33,t34,t35,t36,t37,t38⟩,hr41,hp42⟩:=bind_some' hp26
  try dsimp only at hp42
  have hS44:=hS32.pick1
  refine rC (weirref06_reader__or_2.ok (weirref06_reader__not.f fuelN) weirref06_reader__not.ok hr41 hS44 ha0) ?_
  rintro _ w45 ⟨Q39,Q40,rfl,hS46⟩
  refine ⟨_,rfl,?_⟩
  refine sR 5 [.inRegion (opsOf (cd30 [1,1,1,1,0,0])) [1],.code (cd30 [1,1,1,1,0,1]),.code p30_13] ?_
  obtain ⟨t47,hr48,hp49⟩:=bind_some' hp42
  obtain ⟨Z52,hz53,hS54,hs55,hb56⟩:=hS46.lendrow len_api_Node (by omega)
  refine rC (weirref06_reader__bad.ok hr48 hS54 (ha0.up hz53) hs55) ?_
  rintro _ w57 ⟨rfl,hS58⟩
  refine ⟨_,rfl,?_⟩
  have hS59:=hb56 _ _ hS58
  refine sR 1 [.code (cd30 [1,1,1,1,0,1]),.code p30_13] ?_
  cases t47
  ·have hp60:=ite_f hp49 rfl
   refine sR 3 [.code (cd30 [1,1,1,1,1,0]),.code (cd30 [1,1,1,1,1,1])] ?_
   refine r_drawn3 (C:=St w0 Z (xrow Q39 Q40 68 6 (t37.flatMap enc_api_Node)::xblk b27 122 ([.slice Aa0 a0.length ca0,.int .i64 t34] ++ (enc_api_Token t35) ++ [.int .i64 t36,.slice Q39 t37.length Q40] ++ (enc_weirref05_Fault t38))::xblk b1 29 (enc_weirref05_Fault (⟨0,0,0⟩ : weirref05_Fault))::fs)) (c:=(cd30 [1,1,1,1,1,0])) (id:=7) (by kernel_rfl) (by kernel_rfl) 11 (Nat.le_of_ble_eq_true (by kernel_rfl)) (by kernel_rfl) (by kernel_rfl) (by kernel_rfl) (is:=[0,1,2,3,4,5,6,7,8,9,10]) (rest:=[11]) (by kernel_rfl) (by kernel_rfl) hS59.drew ?_
   refine qR 3 (rg 3 8) ?_
   refine qL1 23 (.tmp 31) 10 (fun w hC => (hC.blk 1 rfl)) ?_
   refine qR 3 (rg 7 4) ?_
   refine qL1 3 (.tmp 35) 1 (fun w hC => (hC.blk 1 rfl)) ?_
   refine qR 3 [] ?_
   refine Qs.nil ?_
   intro w61 hS62
   have hS63:=hS62.pick2
   refine rSA 29 (.tmp 6) (.tmp 37) (enc_weirref05_Fault (⟨0,0,0⟩ : weirref05_Fault)) hS63 (one_weirref05_Fault _) ?_
   intro w64 hS65
   refine sR 1 [.code (cd30 [1,1,1,1,1,1])] ?_
   have hS66:=hS65.drop
   have hS67:=hS66.pick1
   have hS68:=hS67.drop
   refine rRc (.tuple #[.slice Q39 t37.length Q40,.int .i64 t34,.agg (enc_weirref05_Fault (⟨0,0,0⟩ : weirref05_Fault)).toArray]) (.tm 4 (.tm 5 (.ca 6 29 (hS65.blk 0 rfl) .nil))) Tryz.func30 ?_
   cases Option.some.inj hp60
   exact hR _ _ ⟨Q39,Q40,rfl,hS68⟩
  have hp70:=ite_t hp49 rfl
  refine sR 2 [.code (cd30 [1,1,1,1,0,1,0,0]),.code (cd30 [1,1,1,1,0,1,0,1]),.code p30_13] ?_
  refine r_drawn3 (C:=St w0 Z (xrow Q39 Q40 68 6 (t37.flatMap enc_api_Node)::xblk b27 122 ([.slice Aa0 a0.length ca0,.int .i64 t34] ++ (enc_api_Token t35) ++ [.int .i64 t36,.slice Q39 t37.length Q40] ++ (enc_weirref05_Fault t38))::xblk b1 29 (enc_weirref05_Fault (⟨0,0,0⟩ : weirref05_Fault))::fs)) (c:=(cd30 [1,1,1,1,0,1,0,0])) (id:=6) (by kernel_rfl) (by kernel_rfl) 6 (Nat.le_of_ble_eq_true (by kernel_rfl)) (by kernel_rfl) (by kernel_rfl) (by kernel_rfl) (is:=[0,1,2,3,4,5]) (rest:=[6]) (by kernel_rfl) (by kernel_rfl) hS59.drew ?_
  refine qR 3 [3,4,5] ?_
  refine qLa 29 (.tmp 27) (fun w hC => (Cells.mid' (pre:=[.slice Aa0 a0.length ca0] ++ [.int .i64 t34] ++ (enc_api_Token t35) ++ [.int .i64 t36] ++ [.slice Q39 t37.length Q40]) (cs:=enc_weirref05_Fault t38) (post:=[]) (off:=11) (hC.blk 1 rfl) (by simp [len_api_Token,len_weirref05_Fault]) (by simp))) ?_
  refine qR 2 [] ?_
  refine Qs.nil ?_
  intro w71 hS72
  have hS73:=hS72.pick2
  refine rSA 29 (.tmp 6) (.tmp 28) (enc_weirref05_Fault t38) hS73 (one_weirref05_Fault _) ?_
  intro w74 hS75
  refine sR 1 [.code (cd30 [1,1,1,1,0,1,0,1]),.code p30_13] ?_
  have hS77:=hS75.nilrow none 68 6
  have hS78:=hS77.pick1
  have hS79:=hS78.drop
  have hS80:=hS79.pick1
  have hS81:=hS80.drop
  have hS82:=hS81.pick1
  have hS83:=hS82.drop
  refine rRc (.tuple #[.slice none 0 0,.int .i64 0,.agg (enc_weirref05_Fault t38).toArray]) (.tm 4 (.tm 5 (.ca 6 29 (hS75.blk 0 rfl) .nil))) Tryz.func30 ?_
  cases Option.some.inj hp70
  exact hR _ _ ⟨none,0,rfl,hS83⟩

noncomputable def cd9 (p : List Nat) : Code := sub (bodyOf Tryz.f9) p
abbrev p9_6:=cd9 [1,1,1]
abbrev p9_11:=cd9 [1,1,1,1,0]
abbrev p9_15:=cd9 [1,1,1,1,1,1,0,0]
abbrev p9_16:=cd9 [1,1,1,1,1,1,0,1]
abbrev p9_17:=cd9 [1,1,1,1,1,1,1]
abbrev p9_18:=cd9 [1,1,1,1,1,1,0,1,0,0]
abbrev p9_19:=cd9 [1,1,1,1,1,1,0,1,0,1]
abbrev p9_20:=cd9 [1,1,1,1,1,1,1,0,0]
abbrev p9_22:=cd9 [1,1,1,1,1,1,1,1]
abbrev p9_23:=cd9 [1,1,1,1,1,1,1,0,1,0,0]
abbrev p9_24:=cd9 [1,1,1,1,1,1,1,0,1,0,1]
abbrev p9_26:=cd9 [1,1,1,1,1,1,1,1,1]
abbrev td350:List Item:=[.code (cd9 [1,1,1,1,1,1,1,0,1]),.code p9_22]
def weirref06_Parse.f (a0 : ByteArray) : Option ((List api_Node) × weirref05_Fault) :=
  (weirref05_Tokens.f a0 >>= (fun (t5,t6) => (if (t6.Code != 0) = true then some (([],t6)) else (weirref05_Place.f a0 (a0.size : Int) >>= (fun (t38,t39,t40) => (if (t5.length + ([(⟨0,(⟨#[]⟩ : ByteArray),0,t38,t39,(a0.size : Int),(a0.size : Int)⟩ : api_Token)] : List api_Token).length) * 64 ≤ 140737488355328 then (weirref06_Take.f (t5 ++ ([(⟨0,(⟨#[]⟩ : ByteArray),0,t38,t39,(a0.size : Int),(a0.size : Int)⟩ : api_Token)] : List api_Token)) 0 >>= (fun (t57,t58,t59) => (if (t59.Code != 0) = true then some (([],t59)) else (if 0 ≤ t58 ∧ t58 < ((t5 ++ ([(⟨0,(⟨#[]⟩ : ByteArray),0,t38,t39,(a0.size : Int),(a0.size : Int)⟩ : api_Token)] : List api_Token)).length : Int) then (if (((gt (t5 ++ ([(⟨0,(⟨#[]⟩ : ByteArray),0,t38,t39,(a0.size : Int),(a0.size : Int)⟩ : api_Token)] : List api_Token)) t58).Kind) != 0) = true then (if 0 ≤ t58 ∧ t58 < ((t5 ++ ([(⟨0,(⟨#[]⟩ : ByteArray),0,t38,t39,(a0.size : Int),(a0.size : Int)⟩ : api_Token)] : List api_Token)).length : Int) then (if 0 ≤ t58 ∧ t58 < ((t5 ++ ([(⟨0,(⟨#[]⟩ : ByteArray),0,t38,t39,(a0.size : Int),(a0.size : Int)⟩ : api_Token)] : List api_Token)).length : Int) then some (([],(⟨(gt (t5 ++ ([(⟨0,(⟨#[]⟩ : ByteArray),0,t38,t39,(a0.size : Int),(a0.size : Int)⟩ : api_Token)] : List api_Token)) t58).Line,(gt (t5 ++ ([(⟨0,(⟨#[]⟩ : ByteArray),0,t38,t39,(a0.size : Int),(a0.size : Int)⟩ : api_Token)] : List api_Token)) t58).Col,70⟩ : weirref05_Fault))) else none) else none) else some ((t57,(⟨0,0,0⟩ : weirref05_Fault)))) else none)))) else none))))))
theorem weirref06_Parse.ok {a0 : ByteArray} {q0 : List api_Node} {q1 : weirref05_Fault} (hp0 : weirref06_Parse.f a0 = some (q0,q1)) (hS0 : St w0 Z (fs) w) :
    Calls Tryz.prog 9 #[.string a0] w (fun e w' => ∃ (QA0 : Option Addr) (Qc0 : Nat),e = .returned (.tuple #[.slice QA0 q0.length Qc0,.agg (enc_weirref05_Fault q1).toArray]) ∧ St w0 Z (xrow QA0 Qc0 68 6 (q0.flatMap enc_api_Node)::fs) w'):=by
  refine calls_abs ?_; intro R hR
  unfold weirref06_Parse.f at hp0
  refine calls_of_runs (fn:=Tryz.f9) (c:=cd9 []) Tryz.func9 (by kernel_rfl) (al:=[.string a0]) rfl (n:=66) rfl ?_
  refine sR 3 [.inRegion (opsOf (cd9 [0])) [1],.code (cd9 [1])] ?_
  refine rA 29 (.agg (enc_weirref05_Fault (⟨0,0,0⟩ : weirref05_Fault)).toArray) (enc_weirref05_Fault (⟨0,0,0⟩ : weirref05_Fault)) hS0 ?_
  intro b1 w2 hS3
  refine sR 4 [iR (cd9 [1,0]) 1 7,.code (cd9 [1,1])] ?_
  obtain ⟨⟨t5,t6⟩,hr9,hp10⟩:=bind_some' hp0
  try dsimp only at hp10
  refine rC (weirref05_Tokens.ok hr9 hS3) ?_
  rintro _ w12 ⟨Q7,Q8,rfl,hS13⟩
  refine ⟨_,rfl,?_⟩
  refine sR 3 [.inRegion (opsOf (cd9 [1,0])) [5,6,7],.code (cd9 [1,1])] ?_
  refine rA 29 (.agg (enc_weirref05_Fault (⟨0,0,0⟩ : weirref05_Fault)).toArray) (enc_weirref05_Fault (⟨0,0,0⟩ : weirref05_Fault)) hS13 ?_
  intro b14 w15 hS16
  refine sR 1 [.inRegion (opsOf (cd9 [1,0])) [7],.code (cd9 [1,1])] ?_
  refine rSA 29 (.tmp 5) (.tmp 15) (enc_weirref05_Fault t6) hS16 (one_weirref05_Fault _) ?_
  intro w18 hS19
  refine sR 5 [.inRegion (opsOf (cd9 [1,1,0,0])) [1,2],.code (cd9 [1,1,0,1]),.code p9_6] ?_
  refine rL1 3 (.tmp 16) 2 (hS19.blk 0 rfl) ?_
  refine sI 1 [.inRegion (opsOf (cd9 [1,1,0,0])) [],.code (cd9 [1,1,0,1]),.code p9_6] 18 hp10 (fun hp22 => ?_) fun hp37 => ?_
  ·refine sR 3 [.code (cd9 [1,1,0,1,0,0]),.code (cd9 [1,1,0,1,0,1]),.code p9_6] ?_
   refine r_drawn3 (C:=St w0 Z (xblk b14 29 (enc_weirref05_Fault t6)::xrow Q7 Q8 75 7 (t5.flatMap enc_api_Token)::xblk b1 29 (enc_weirref05_Fault (⟨0,0,0⟩ : weirref05_Fault))::fs)) (c:=(cd9 [1,1,0,1,0,0])) (id:=3) (by kernel_rfl) (by kernel_rfl) 2 (Nat.le_of_ble_eq_true (by kernel_rfl)) (by kernel_rfl) (by kernel_rfl) (by kernel_rfl) (is:=[0,1]) (rest:=[2]) (by kernel_rfl) (by kernel_rfl) hS19.drew ?_
   refine qLa 29 (.tmp 5) (fun w hC => (hC.blk 0 rfl)) ?_
   refine qR 1 [] ?_
   refine Qs.nil ?_
   intro w23 hS24
   have hS25:=hS24.pick2
   refine rSA 29 (.tmp 3) (.tmp 19) (enc_weirref05_Fault t6) hS25 (one_weirref05_Fault _) ?_
   intro w26 hS27
   refine sR 1 [.code (cd9 [1,1,0,1,0,1]),.code p9_6] ?_
   have hS29:=hS27.nilrow none 68 6
   have hS30:=hS29.pick1
   have hS31:=hS30.drop
   have hS32:=hS31.pick1
   have hS33:=hS32.drop
   have hS34:=hS33.pick1
   have hS35:=hS34.drop
   refine rRc (.tuple #[.slice none 0 0,.agg (enc_weirref05_Fault t6).toArray]) (.tm 2 (.ca 3 29 (hS27.blk 0 rfl) .nil)) Tryz.func9 ?_
   cases Option.some.inj hp22
   exact hR _ _ ⟨none,0,rfl,hS35⟩
  refine sR 8 [iR (cd9 [1,1,1,0]) 3 8,.code (cd9 [1,1,1,1])] ?_
  obtain ⟨⟨t38,t39,t40⟩,hr41,hp42⟩:=bind_some' hp37
  try dsimp only at hp42
  refine rC (weirref05_Place.ok hr41 hS19) ?_
  rintro _ w43 ⟨rfl,hS44⟩
  refine ⟨_,rfl,?_⟩
  refine sR 18 [.inRegion (opsOf p9_11) [8,9,10],.code (cd9 [1,1,1,1,1])] ?_
  refine r_lit (c:=p9_11) (i:=8) (d:=(some 36)) (ty:=53) (t:=53) (e:=75) (sz:=7) (n:=1) (parts:=#[(0,(.tmp 35))]) (vs:=[(0,.agg (enc_api_Token (⟨0,(⟨#[]⟩ : ByteArray),0,t38,t39,(a0.size : Int),(a0.size : Int)⟩ : api_Token)).toArray)]) (z:=zeroOf Tryz.prog 75) (cs':=([(⟨0,(⟨#[]⟩ : ByteArray),0,t38,t39,(a0.size : Int),(a0.size : Int)⟩ : api_Token)] : List api_Token).flatMap enc_api_Token) hS44 (by kernel_rfl) (by kernel_rfl) (by kernel_rfl) (by kernel_rfl) (by kernel_rfl) (by decide) (by decide) (by kernel_rfl) rfl (Parts.cons (c:=enc_api_Token (⟨0,(⟨#[]⟩ : ByteArray),0,t38,t39,(a0.size : Int),(a0.size : Int)⟩ : api_Token)) (by kernel_rfl) (len_api_Token _) Parts.nil) rfl ?_
  intro b46 w47 hS48
  have hS49:=hS48.pick2
  obtain ⟨g50,hp51⟩:=ite_some hp42
  refine r_append (c:=p9_11) (i:=9) (d:=(some 37)) (ty:=53) (enc:=enc_api_Token) (e:=75) (u:=75) (t:=53) (t2:=53) (sz:=7) (cp:=Q8) (A:=Q7) (bytes:=64) (xs:=t5) (ys:=([(⟨0,(⟨#[]⟩ : ByteArray),0,t38,t39,(a0.size : Int),(a0.size : Int)⟩ : api_Token)] : List api_Token)) (s:=(.tmp 28)) (x:=(.tmp 36)) (xv:=.slice (some ⟨b46,0,none⟩) ([(⟨0,(⟨#[]⟩ : ByteArray),0,t38,t39,(a0.size : Int),(a0.size : Int)⟩ : api_Token)] : List api_Token).length 1) (info:=infoOf Tryz.prog 75) (z:=zeroOf Tryz.prog 75) (ycs:=([(⟨0,(⟨#[]⟩ : ByteArray),0,t38,t39,(a0.size : Int),(a0.size : Int)⟩ : api_Token)] : List api_Token).flatMap enc_api_Token) hS49 (by kernel_rfl) (by kernel_rfl) (by kernel_rfl) (by kernel_rfl) (by kernel_rfl) (.inl (by kernel_rfl)) (by kernel_rfl) (by kernel_rfl) (by kernel_rfl) (by kernel_rfl) (by kernel_rfl) (by omega) len_api_Token one_api_Token (src_row (hS49.row 1 rfl) (by omega) len_api_Token) rfl g50 (by omega) ?_
  intro A52 c53 w54 hS55
  refine sR 5 [iR (cd9 [1,1,1,1,1,0]) 1 8,.code (cd9 [1,1,1,1,1,1])] ?_
  obtain ⟨⟨t57,t58,t59⟩,hr62,hp63⟩:=bind_some' hp51
  try dsimp only at hp63
  obtain ⟨Z65,hz66,hS67,hs68,hb69⟩:=hS55.lendrow len_api_Token (by omega)
  refine rC (weirref06_Take.ok hr62 hS67 hs68) ?_
  rintro _ w70 ⟨Q60,Q61,rfl,hS71⟩
  refine ⟨_,rfl,?_⟩
  have hS72:=hb69 _ _ hS71
  refine sR 6 [.inRegion (opsOf (cd9 [1,1,1,1,1,0])) [8],.code (cd9 [1,1,1,1,1,1])] ?_
  have hS73:=hS72.pick3
  refine rSA 29 (.tmp 5) (.tmp 43) (enc_weirref05_Fault t59) hS73 (one_weirref05_Fault _) ?_
  intro w74 hS75
  refine sR 5 [.inRegion (opsOf p9_15) [1,2],.code p9_16,.code p9_17] ?_
  refine rL1 3 (.tmp 44) 2 (hS75.blk 0 rfl) ?_
  refine sI 1 [.inRegion (opsOf p9_15) [],.code p9_16,.code p9_17] 46 hp63 (fun hp78 => ?_) fun hp97 => ?_
  ·refine sR 3 [.code p9_18,.code p9_19,.code p9_17] ?_
   refine r_drawn3 (C:=St w0 Z (xblk b14 29 (enc_weirref05_Fault t59)::xrow A52 c53 75 7 ((t5 ++ ([(⟨0,(⟨#[]⟩ : ByteArray),0,t38,t39,(a0.size : Int),(a0.size : Int)⟩ : api_Token)] : List api_Token)).flatMap enc_api_Token)::xrow Q60 Q61 68 6 (t57.flatMap enc_api_Node)::xrow (some ⟨b46,0,none⟩) 1 75 7 (([(⟨0,(⟨#[]⟩ : ByteArray),0,t38,t39,(a0.size : Int),(a0.size : Int)⟩ : api_Token)] : List api_Token).flatMap enc_api_Token)::xblk b1 29 (enc_weirref05_Fault (⟨0,0,0⟩ : weirref05_Fault))::fs)) (c:=p9_18) (id:=8) (by kernel_rfl) (by kernel_rfl) 2 (Nat.le_of_ble_eq_true (by kernel_rfl)) (by kernel_rfl) (by kernel_rfl) (by kernel_rfl) (is:=[0,1]) (rest:=[2]) (by kernel_rfl) (by kernel_rfl) hS75.drew ?_
   refine qLa 29 (.tmp 5) (fun w hC => (hC.blk 0 rfl)) ?_
   refine qR 1 [] ?_
   refine Qs.nil ?_
   intro w79 hS80
   have hS81:=hS80.pick4
   refine rSA 29 (.tmp 3) (.tmp 47) (enc_weirref05_Fault t59) hS81 (one_weirref05_Fault _) ?_
   intro w82 hS83
   refine sR 1 [.code p9_19,.code p9_17] ?_
   have hS85:=hS83.nilrow none 68 6
   have hS86:=hS85.pick1
   have hS87:=hS86.drop
   have hS88:=hS87.pick1
   have hS89:=hS88.drop
   have hS90:=hS89.pick1
   have hS91:=hS90.drop
   have hS92:=hS91.pick1
   have hS93:=hS92.drop
   have hS94:=hS93.pick1
   have hS95:=hS94.drop
   refine rRc (.tuple #[.slice none 0 0,.agg (enc_weirref05_Fault t59).toArray]) (.tm 2 (.ca 3 29 (hS83.blk 0 rfl) .nil)) Tryz.func9 ?_
   cases Option.some.inj hp78
   exact hR _ _ ⟨none,0,rfl,hS95⟩
  refine sR 8 (iR p9_20 2 4::td350) ?_
  obtain ⟨g98,hp99⟩:=ite_some hp97
  obtain ⟨b100,p101,hA102,-⟩:=(hS75.row 1 rfl).at_ len_api_Token (by omega) g98.1 g98.2
  refine r_indexAddr (c:=p9_20) (i:=2) (d:=(some 50)) (ty:=0) (t:=53) (e:=75) (n:=(t5 ++ ([(⟨0,(⟨#[]⟩ : ByteArray),0,t38,t39,(a0.size : Int),(a0.size : Int)⟩ : api_Token)] : List api_Token)).length) (cp:=c53) (sz:=7) (kk:=.i64) (x:=(.tmp 48)) (y:=(.tmp 49)) (b:=b100) (o':=p101) (j:=t58) (by kernel_rfl) (by kernel_rfl) (slv (by kernel_rfl) hA102) (by kernel_rfl) (by kernel_rfl) (by kernel_rfl) g98.1 g98.2 ?_
  refine sR 1 (.inRegion (opsOf p9_20) [4,5]::td350) ?_
  refine rL1 3 (.tmp 51) 0 ((hS75.row 1 rfl).at2 hA102 len_api_Token (by omega) g98.1 g98.2) ?_
  refine sI 1 (.inRegion (opsOf p9_20) []::td350) 53 hp99 (fun hp106 => ?_) fun hp137 => ?_
  ·refine sR 3 [.code p9_23,.code p9_24,.code p9_22] ?_
   refine r_drawn3 (C:=St w0 Z (xblk b14 29 (enc_weirref05_Fault t59)::xrow A52 c53 75 7 ((t5 ++ ([(⟨0,(⟨#[]⟩ : ByteArray),0,t38,t39,(a0.size : Int),(a0.size : Int)⟩ : api_Token)] : List api_Token)).flatMap enc_api_Token)::xrow Q60 Q61 68 6 (t57.flatMap enc_api_Node)::xrow (some ⟨b46,0,none⟩) 1 75 7 (([(⟨0,(⟨#[]⟩ : ByteArray),0,t38,t39,(a0.size : Int),(a0.size : Int)⟩ : api_Token)] : List api_Token).flatMap enc_api_Token)::xblk b1 29 (enc_weirref05_Fault (⟨0,0,0⟩ : weirref05_Fault))::fs)) (c:=p9_23) (id:=10) (by kernel_rfl) (by kernel_rfl) 12 (Nat.le_of_ble_eq_true (by kernel_rfl)) (by kernel_rfl) (by kernel_rfl) (by kernel_rfl) (is:=[0,1,2,3,4,5,6,7,8,9,10,11]) (rest:=[12]) (by kernel_rfl) (by kernel_rfl) hS75.drew ?_
   refine qR 2 (rg 2 10) ?_
   obtain ⟨g107,hp108⟩:=ite_some hp106
   obtain ⟨b109,p110,hA111,-⟩:=(hS75.row 1 rfl).at_ len_api_Token (by omega) g107.1 g107.2
   refine q_indexAddr (c:=(hd p9_23 12)) (i:=2) (d:=(some 56)) (ty:=0) (t:=53) (e:=75) (n:=(t5 ++ ([(⟨0,(⟨#[]⟩ : ByteArray),0,t38,t39,(a0.size : Int),(a0.size : Int)⟩ : api_Token)] : List api_Token)).length) (cp:=c53) (sz:=7) (kk:=.i64) (x:=(.tmp 54)) (y:=(.tmp 55)) (b:=b109) (o':=p110) (j:=t58) (by kernel_rfl) (by kernel_rfl) (slv (by kernel_rfl) hA111) (by kernel_rfl) (by kernel_rfl) (by kernel_rfl) g107.1 g107.2 ?_
   refine qR 1 (rg 4 8) ?_
   refine qL1 3 (.tmp 57) 3 (fun w hC => ((hC.row 1 rfl).at2 hA111 len_api_Token (by omega) g107.1 g107.2)) ?_
   refine qR 2 (rg 7 5) ?_
   obtain ⟨g113,hp114⟩:=ite_some hp108
   obtain ⟨b115,p116,hA117,-⟩:=(hS75.row 1 rfl).at_ len_api_Token (by omega) g113.1 g113.2
   refine q_indexAddr (c:=(hd p9_23 12)) (i:=7) (d:=(some 61)) (ty:=0) (t:=53) (e:=75) (n:=(t5 ++ ([(⟨0,(⟨#[]⟩ : ByteArray),0,t38,t39,(a0.size : Int),(a0.size : Int)⟩ : api_Token)] : List api_Token)).length) (cp:=c53) (sz:=7) (kk:=.i64) (x:=(.tmp 59)) (y:=(.tmp 60)) (b:=b115) (o':=p116) (j:=t58) (by kernel_rfl) (by kernel_rfl) (slv (by kernel_rfl) hA117) (by kernel_rfl) (by kernel_rfl) (by kernel_rfl) g113.1 g113.2 ?_
   refine qR 1 [9,10,11] ?_
   refine qL1 3 (.tmp 62) 4 (fun w hC => ((hC.row 1 rfl).at2 hA117 len_api_Token (by omega) g113.1 g113.2)) ?_
   refine qR 2 [] ?_
   refine Qs.nil ?_
   intro w119 hS120
   have hS121:=hS120.pick4
   refine rSA 29 (.tmp 3) (.tmp 64) (enc_weirref05_Fault (⟨(gt (t5 ++ ([(⟨0,(⟨#[]⟩ : ByteArray),0,t38,t39,(a0.size : Int),(a0.size : Int)⟩ : api_Token)] : List api_Token)) t58).Line,(gt (t5 ++ ([(⟨0,(⟨#[]⟩ : ByteArray),0,t38,t39,(a0.size : Int),(a0.size : Int)⟩ : api_Token)] : List api_Token)) t58).Col,70⟩ : weirref05_Fault)) hS121 (one_weirref05_Fault _) ?_
   intro w122 hS123
   refine sR 1 [.code p9_24,.code p9_22] ?_
   have hS125:=hS123.nilrow none 68 6
   have hS126:=hS125.pick1
   have hS127:=hS126.drop
   have hS128:=hS127.pick1
   have hS129:=hS128.drop
   have hS130:=hS129.pick1
   have hS131:=hS130.drop
   have hS132:=hS131.pick1
   have hS133:=hS132.drop
   have hS134:=hS133.pick1
   have hS135:=hS134.drop
   refine rRc (.tuple #[.slice none 0 0,.agg (enc_weirref05_Fault (⟨(gt (t5 ++ ([(⟨0,(⟨#[]⟩ : ByteArray),0,t38,t39,(a0.size : Int),(a0.size : Int)⟩ : api_Token)] : List api_Token)) t58).Line,(gt (t5 ++ ([(⟨0,(⟨#[]⟩ : ByteArray),0,t38,t39,(a0.size : Int),(a0.size : Int)⟩ : api_Token)] : List api_Token)) t58).Col,70⟩ : weirref05_Fault)).toArray]) (.tm 2 (.ca 3 29 (hS123.blk 0 rfl) .nil)) Tryz.func9 ?_
   cases Option.some.inj hp114
   exact hR _ _ ⟨none,0,rfl,hS135⟩
  refine sR 8 [.inRegion (opsOf (cd9 [1,1,1,1,1,1,1,1,0])) [3],.code p9_26] ?_
  have hS138:=hS75.pick4
  refine rSA 29 (.tmp 3) (.tmp 66) (enc_weirref05_Fault (⟨0,0,0⟩ : weirref05_Fault)) hS138 (one_weirref05_Fault _) ?_
  intro w139 hS140
  refine sR 1 [.code p9_26] ?_
  have hS141:=hS140.drop
  have hS142:=hS141.drop
  have hS143:=hS142.drop
  have hS144:=hS143.pick1
  have hS145:=hS144.drop
  refine rRc (.tuple #[.slice Q60 t57.length Q61,.agg (enc_weirref05_Fault (⟨0,0,0⟩ : weirref05_Fault)).toArray]) (.tm 2 (.ca 3 29 (hS140.blk 0 rfl) .nil)) Tryz.func9 ?_
  cases Option.some.inj hp137
  exact hR _ _ ⟨Q60,Q61,rfl,hS145⟩

noncomputable def cd10 (p : List Nat) : Code := sub (bodyOf Tryz.f10) p
abbrev p10_10:=cd10 [1,1,0,1,0,0,1,0,0,0]
abbrev td351:List Item:=[.code (cd10 [1,1,1])]
abbrev td352:List Item:=.inBlock 0::td351
abbrev td353:List Item:=.inLoop (cd10 [1,1,0,1,0,0])::td352
abbrev td354:List Item:=.code (cd10 [1,1,0,1,0,0])::td353
def weirlaw06_sameCond.l0 (a0 a1 : List api_Node) (t16 : Int) : Option (Sum Unit Bool) :=
  (if (decide (t16 < (a0.length : Int))) = true then (if 0 ≤ t16 ∧ t16 < (a0.length : Int) then (if 0 ≤ t16 ∧ t16 < (a1.length : Int) then (if (!(decide ((gt a0 t16) = (gt a1 t16)))) = true then some (.inr (false)) else (weirlaw06_sameCond.l0 a0 a1 (IntKind.i64.wrap (t16 + 1)))) else none) else none) else some (.inl ()))
 partial_fixpoint
def weirlaw06_sameCond.f (a0 a1 : List api_Node) : Option Bool :=
  (if ((a0.length : Int) != (a1.length : Int)) = true then some (false) else (weirlaw06_sameCond.l0 a0 a1 0 >>= (fun | .inl () => some (true) | .inr e => some e)))
theorem weirlaw06_sameCond.ok {a0 a1 : List api_Node} {Aa0 : Option Addr} {ca0 : Nat} {Aa1 : Option Addr} {ca1 : Nat} {q0 : Bool} (hp0 : weirlaw06_sameCond.f a0 a1 = some q0) (hS0 : St w0 Z (fs) w) (ha0 : SlZ (flat enc_api_Node) 6 Z Aa0 ca0 a0) (ha1 : SlZ (flat enc_api_Node) 6 Z Aa1 ca1 a1) :
    Calls Tryz.prog 10 #[.slice Aa0 a0.length ca0,.slice Aa1 a1.length ca1] w (fun e w' => e = .returned (.bool q0) ∧ St w0 Z (fs) w'):=by
  refine calls_abs ?_; intro R hR
  unfold weirlaw06_sameCond.f at hp0
  refine calls_of_runs (fn:=Tryz.f10) (c:=cd10 []) Tryz.func10 (by kernel_rfl) (al:=[.slice Aa0 a0.length ca0,.slice Aa1 a1.length ca1]) rfl (n:=24) rfl ?_
  refine sI 12 [.inRegion (opsOf (cd10 [1,0,0])) [],.code (cd10 [1,0,1]),.code (cd10 [1,1])] 10 hp0 (fun hp3 => ?_) fun hp5 => ?_
  ·refine sR 6 [.code (cd10 [1,0,1,0,1]),.code (cd10 [1,1])] ?_
   refine rR (.bool false) Tryz.func10 ?_
   cases Option.some.inj hp3
   exact hR _ _ ⟨rfl,hS0⟩
  refine sR 10 td354 ?_
  obtain ⟨v6,hv7,hp8⟩:=bind_some' hp5
  have hq11 : ∀ x,Sum.inr x = v6 → x = q0:=by intro x hx; subst hx; simpa using hp8
  have J12 : ∀ (he14 : Sum.inl () = v6) (l13 : List Value) (w9 : World) (hS10 : St w0 Z (fs) w9),Runs Tryz.prog (fx 10) td351 (fill (mk 26 []) l13) w9 R:=by
   intro he14 l13 w9 hS10
   subst he14
   try dsimp only at hp8
   refine sR 4 [.code (cd10 [1,1,1,1])] ?_
   refine rR (.bool true) Tryz.func10 ?_
   cases Option.some.inj hp8
   exact hR _ _ ⟨rfl,hS10⟩
  have L25 : ∀ (t16 : Int) (e20 : Sum Unit Bool),weirlaw06_sameCond.l0 a0 a1 t16 = some e20 → e20 = v6 → ∀ (l19 : List Value) (w17 : World) (hS18 : St w0 Z (fs) w17),Runs Tryz.prog (fx 10) td354 (fill (mk 26 [(0,.slice Aa0 a0.length ca0),(1,.slice Aa1 a1.length ca1),(5,.int .i64 t16)]) l19) w17 R:=by
   refine weirlaw06_sameCond.l0.partial_correctness a0 a1 (fun t16 e20 => e20 = v6 → ∀ (l19 : List Value) (w17 : World) (hS18 : St w0 Z (fs) w17),Runs Tryz.prog (fx 10) td354 (fill (mk 26 [(0,.slice Aa0 a0.length ca0),(1,.slice Aa1 a1.length ca1),(5,.int .i64 t16)]) l19) w17 R) ?_
   intro rec24 ih23 t16 e20 hb22 he21 l19 w17 hS18
   have hq26 : ∀ x,Sum.inr x = e20 → x = q0:=fun x hx => hq11 x (hx.trans he21)
   refine sI 7 (.inRegion (opsOf (cd10 [1,1,0,1,0,0,0,0])) []::.code (cd10 [1,1,0,1,0,0,0,1])::.code (cd10 [1,1,0,1,0,0,1])::td353) 14 hb22 (fun hp29 => ?_) fun hp51 => ?_
   ·refine sR 6 (.code p10_10::.code (cd10 [1,1,0,1,0,0,1,0,0,1])::.inBlock 1::.code (cd10 [1,1,0,1,0,0,1,1])::td353) ?_
    refine r_quiet hS18 (c:=p10_10) (id:=6) (by kernel_rfl) (by kernel_rfl) (by kernel_rfl) (is:=[0,1,2,3,4,5,6,7,8]) (by kernel_rfl) ?_
    refine qR 2 (rg 2 7) ?_
    obtain ⟨g30,hp31⟩:=ite_some hp29
    obtain ⟨b32,p33,hA34,hc35⟩:=ha0.atF g30.1 g30.2
    refine q_indexAddr (c:=p10_10) (i:=2) (d:=(some 19)) (ty:=0) (t:=23) (e:=68) (n:=a0.length) (cp:=ca0) (sz:=6) (kk:=.i64) (x:=(.tmp 17)) (y:=(.tmp 18)) (b:=b32) (o':=p33) (j:=t16) (by kernel_rfl) (by kernel_rfl) (slv (by kernel_rfl) hA34) (by kernel_rfl) (by kernel_rfl) (by kernel_rfl) g30.1 g30.2 ?_
    refine qLa 68 (.tmp 19) (fun w hC => (hc35.cells hC)) ?_
    refine qR 2 [6,7,8] ?_
    obtain ⟨g36,hp37⟩:=ite_some hp31
    obtain ⟨b38,p39,hA40,hc41⟩:=ha1.atF g36.1 g36.2
    refine q_indexAddr (c:=p10_10) (i:=6) (d:=(some 23)) (ty:=0) (t:=23) (e:=68) (n:=a1.length) (cp:=ca1) (sz:=6) (kk:=.i64) (x:=(.tmp 21)) (y:=(.tmp 22)) (b:=b38) (o':=p39) (j:=t16) (by kernel_rfl) (by kernel_rfl) (slv (by kernel_rfl) hA40) (by kernel_rfl) (by kernel_rfl) (by kernel_rfl) g36.1 g36.2 ?_
    refine qLa 68 (.tmp 23) (fun w hC => (hc41.cells hC)) ?_
    refine qV (.binOp .neq 68 (.tmp 20) (.tmp 24) 68) (.bool (!(decide ((gt a0 t16) = (gt a1 t16))))) (fun w hC o ho _ => x_neq_api_Node (by kernel_rfl) (by kernel_rfl) ho) ?_
    refine q_split (!(decide ((gt a0 t16) = (gt a1 t16)))) (fun h42 => ?_) (fun h43 => ?_)
    ·have hp44:=ite_t hp37 h42
     refine Qs.nil ?_
     intro w45 hS46
     refine sR 5 (.code (cd10 [1,1,0,1,0,0,1,0,0,1,0,1])::.inBlock 1::.code (cd10 [1,1,0,1,0,0,1,1])::td353) ?_
     refine rR (.bool false) Tryz.func10 ?_
     cases hq26 _ (Option.some.inj hp44)
     exact hR _ _ ⟨rfl,hS46⟩
    have hp48:=ite_f hp37 h43
    refine Qs.nil ?_
    intro w49 hS50
    refine sR 8 td353 ?_
    refine sR 1 td354 ?_
    exact rF _ (ih23 (IntKind.i64.wrap (t16 + 1)) _ hp48 he21 _ _ hS50)
   refine sR 3 td351 ?_
   exact rF _ (J12 ((Option.some.inj hp51).trans he21) _ _ hS18)
  exact rF _ (L25 0 _ hv7 rfl _ _ hS0)

noncomputable def cd11 (p : List Nat) : Code := sub (bodyOf Tryz.f11) p
abbrev p11_17:=cd11 [1,1,1,1,1,0,1,0,0]
abbrev p11_19:=cd11 [1,1,1,1,0,1,0,0,0]
abbrev p11_22:=cd11 [1,1,1,1,0,1,0,0,1,0,0]
abbrev p11_23:=cd11 [1,1,1,1,0,1,0,0,1,0,1]
abbrev td355:List Item:=[.code (cd11 [1,1,1,1,1])]
abbrev td356:List Item:=[.code (cd11 [1,1,1,1,1,0,1,0,1]),.code (cd11 [1,1,1,1,1,1])]
abbrev td357:List Item:=.code (cd11 [1,1,1,1,0,1,0,1])::td355
abbrev td358:List Item:=.code (cd11 [1,1,1,1,0,1,0,0,1])::td357
def weirlaw06_fault.f (a0 : PErr) : Option weirref05_Fault :=
  (if (PErr.isNil a0) = true then some ((⟨0,0,0⟩ : weirref05_Fault)) else (((PErr.cas a0 (some (.inl .nil)) (fun n53 => some (.inl (.num n53))) (fun n54 n55 n56 => some (.inr ((⟨n54,n55,n56⟩ : weirref05_Fault))))) : Option (Sum PErr weirref05_Fault)) >>= (fun | .inl t24 => (PErr.cas t24 (none) (fun n34 => some ((⟨(-1),0,n34⟩ : weirref05_Fault))) (fun n35 n36 n37 => none)) | .inr e => some e)))
theorem weirlaw06_fault.ok {a0 : PErr} {va0 : Value} {q0 : weirref05_Fault} (hp0 : weirlaw06_fault.f a0 = some q0) (hS0 : St w0 Z (fs) w) (hea0 : RepE 37 78 Z va0 a0) (hE : Env Z) :
    Calls Tryz.prog 11 #[va0] w (fun e w' => e = .returned (.agg (enc_weirref05_Fault q0).toArray) ∧ St w0 Z (fs) w'):=by
  refine calls_abs ?_; intro R hR
  unfold weirlaw06_fault.f at hp0
  refine calls_of_runs (fn:=Tryz.f11) (c:=cd11 []) Tryz.func11 (by kernel_rfl) (al:=[va0]) rfl (n:=37) rfl ?_
  refine sR 2 [.inRegion (opsOf (cd11 [0])) [0],.code (cd11 [1])] ?_
  refine rA 29 (.agg (enc_weirref05_Fault (⟨0,0,0⟩ : weirref05_Fault)).toArray) (enc_weirref05_Fault (⟨0,0,0⟩ : weirref05_Fault)) hS0 ?_
  intro b1 w2 hS3
  refine sR 5 [.inRegion (opsOf (cd11 [1,0,0])) [1],.code (cd11 [1,0,1]),.code (cd11 [1,1])] ?_
  refine rV (.binOp .eql 25 (.tmp 5) (.const (.nilIface)) 25) (.bool (PErr.isNil a0)) (fun o ho _ => x_errNil (neg:=false) hea0 (by kernel_rfl) (by kernel_rfl) (fun _ _ => (by kernel_rfl)) ho) ?_
  refine r_split (PErr.isNil a0) (fun h5 => ?_) (fun h6 => ?_)
  ·have hp7:=ite_t hp0 h5
   refine sR 5 [.inRegion (opsOf (cd11 [1,0,1,0,0])) [1],.code (cd11 [1,0,1,0,1]),.code (cd11 [1,1])] ?_
   refine rSA 29 (.tmp 2) (.tmp 7) (enc_weirref05_Fault (⟨0,0,0⟩ : weirref05_Fault)) hS3 (one_weirref05_Fault _) ?_
   intro w8 hS9
   refine sR 1 [.code (cd11 [1,0,1,0,1]),.code (cd11 [1,1])] ?_
   have hS10:=hS9.drop
   refine rRc (.agg (enc_weirref05_Fault (⟨0,0,0⟩ : weirref05_Fault)).toArray) (.ca 2 29 (hS9.blk 0 rfl) .nil) Tryz.func11 ?_
   cases Option.some.inj hp7
   exact hR _ _ ⟨rfl,hS10⟩
  have hp12:=ite_f hp0 h6
  refine sR 5 [.inRegion (opsOf (cd11 [1,1,0])) [0],.code (cd11 [1,1,1])] ?_
  refine rA 78 (.pointer none) [.pointer none] hS3 ?_
  intro b13 w14 hS15
  refine sR 3 [.inRegion (opsOf (cd11 [1,1,1,0])) [0],.code (cd11 [1,1,1,1])] ?_
  refine rA 37 (.int .i64 0) [.int .i64 0] hS15 ?_
  intro b17 w18 hS19
  refine sR 6 (iR (cd11 [1,1,1,1,0,0]) 2 5::.code (cd11 [1,1,1,1,0,1])::td355) ?_
  obtain ⟨v21,hv22,hp23⟩:=bind_some' hp12
  have hq30 : ∀ x,Sum.inr x = v21 → x = q0:=by intro x hx; subst hx; simpa using hp23
  have J31 : ∀ (t24 : PErr) (he33 : Sum.inl t24 = v21) (l32 : List Value) (v25 : Value) (w28 : World) (hS29 : St w0 Z (xblk b1 29 (enc_weirref05_Fault (⟨0,0,0⟩ : weirref05_Fault))::xblk b17 37 ([.int .i64 0])::fs) w28) (he26 : RepE 37 78 Z v25 t24),Runs Tryz.prog (fx 11) td355 (fill (mk 38 [(0,v25),(2,.pointer (some ⟨b1,0,none⟩)),(4,.pointer (some ⟨b17,0,none⟩))]) l32) w28 R:=by
   intro t24 he33 l32 v25 w28 hS29 he26
   subst he33
   try dsimp only at hp23
   refine sR 5 [.inRegion (opsOf (cd11 [1,1,1,1,1,0,0])) [2],.code (cd11 [1,1,1,1,1,0,1]),.code (cd11 [1,1,1,1,1,1])] ?_
   rcases t24 with _ | n34 | ⟨n35,n36,n37⟩
   ·have hp38:=cas_nil hp23
    have he26 : v25 = .nilIface:=he26
    subst he26
    cases hp38
   ·have hp39:=cas_num hp23
    have he26 : v25 = .iface 37 (.int .i64 n34):=he26
    subst he26
    have hS40:=hS29.pick1
    refine rC (as_hitB37 n34 hS40 hE) ?_
    rintro _ w41 ⟨rfl,hS42⟩
    refine ⟨_,rfl,?_⟩
    refine sR 4 (.inRegion (opsOf p11_17) [0,1,2]::td356) ?_
    refine rL1 37 (.tmp 4) 0 (hS42.blk 0 rfl) ?_
    refine sR 1 (.inRegion (opsOf p11_17) [2]::td356) ?_
    have hS43:=hS42.pick1
    refine rSA 29 (.tmp 2) (.tmp 36) (enc_weirref05_Fault (⟨(-1),0,n34⟩ : weirref05_Fault)) hS43 (one_weirref05_Fault _) ?_
    intro w44 hS45
    refine sR 1 td356 ?_
    have hS46:=hS45.drop
    have hS47:=hS46.drop
    refine rRc (.agg (enc_weirref05_Fault (⟨(-1),0,n34⟩ : weirref05_Fault)).toArray) (.ca 2 29 (hS45.blk 0 rfl) .nil) Tryz.func11 ?_
    cases Option.some.inj hp39
    exact hR _ _ ⟨rfl,hS47⟩
   have hp49:=cas_pos hp23
   obtain ⟨b50,he26,hs51⟩:=he26
   subst he26
   cases hp49
  rcases a0 with _ | n53 | ⟨n54,n55,n56⟩
  ·have hp57:=cas_nil hv22
   have hea0 : va0 = .nilIface:=hea0
   subst hea0
   have hS58:=hS19.pick1
   refine rC (as_nilB hS58 hE) ?_
   rintro _ w59 ⟨rfl,hS60⟩
   refine ⟨_,rfl,?_⟩
   refine sR 7 td355 ?_
   have hS62:=hS60.drop
   have hS63:=hS62.pick1
   exact rF _ (J31 .nil (Option.some.inj hp57) _ .nilIface _ hS63 (RepE.of_nil))
  ·have hp64:=cas_num hv22
   have hea0 : va0 = .iface 37 (.int .i64 n53):=hea0
   subst hea0
   have hS65:=hS19.pick1
   refine rC (as_noneB78 n53 hS65 hE) ?_
   rintro _ w66 ⟨rfl,hS67⟩
   refine ⟨_,rfl,?_⟩
   refine sR 7 td355 ?_
   have hS69:=hS67.drop
   have hS70:=hS69.pick1
   exact rF _ (J31 (.num n53) (Option.some.inj hp64) _ (.iface 37 (.int .i64 n53)) _ hS70 (RepE.of_num))
  have hp71:=cas_pos hv22
  obtain ⟨b72,hea0,hs73⟩:=hea0
  subst hea0
  have hS75:=hS19.pick1
  refine rC (as_hitB78 ⟨b72,0,none⟩ hS75 hE) ?_
  rintro _ w76 ⟨rfl,hS77⟩
  refine ⟨_,rfl,?_⟩
  refine sR 1 (.inRegion (opsOf (cd11 [1,1,1,1,0,0])) [4,5,6]::.code (cd11 [1,1,1,1,0,1])::td355) ?_
  refine rL1 78 (.tmp 3) 0 (hS77.blk 0 rfl) ?_
  refine sR 7 (iR p11_19 0 6::td358) ?_
  refine rL1 78 (.tmp 3) 0 (hS77.blk 0 rfl) ?_
  refine sR 2 (.inRegion (opsOf p11_19) [3,4,5]::td358) ?_
  refine rL1 25 (.tmp 17) 2 (hs73.cells hS77) ?_
  refine sR 1 (.inRegion (opsOf p11_19) [5]::td358) ?_
  have hS78:=hS77.pick1
  refine rC (as_hitB37 n56 hS78 hE) ?_
  rintro _ w79 ⟨rfl,hS80⟩
  refine ⟨_,rfl,?_⟩
  refine sR 3 (.code p11_22::.code p11_23::td357) ?_
  refine r_drawn3 (C:=St w0 Z (xblk b17 37 ([.int .i64 n56])::xblk b13 78 ([.pointer (some ⟨b72,0,none⟩)])::xblk b1 29 (enc_weirref05_Fault (⟨0,0,0⟩ : weirref05_Fault))::fs)) (c:=p11_22) (id:=7) (by kernel_rfl) (by kernel_rfl) 10 (Nat.le_of_ble_eq_true (by kernel_rfl)) (by kernel_rfl) (by kernel_rfl) (by kernel_rfl) (is:=[0,1,2,3,4,5,6,7,8,9]) (rest:=[10]) (by kernel_rfl) (by kernel_rfl) hS80.drew ?_
  refine qL1 78 (.tmp 3) 0 (fun w hC => (hC.blk 1 rfl)) ?_
  refine qR 2 (rg 3 7) ?_
  refine qL1 3 (.tmp 23) 0 (fun w hC => (hs73.cells hC)) ?_
  refine qL1 78 (.tmp 3) 0 (fun w hC => (hC.blk 1 rfl)) ?_
  refine qR 2 [7,8,9] ?_
  refine qL1 3 (.tmp 27) 1 (fun w hC => (hs73.cells hC)) ?_
  refine qL1 37 (.tmp 4) 0 (fun w hC => (hC.blk 0 rfl)) ?_
  refine qR 1 [] ?_
  refine Qs.nil ?_
  intro w81 hS82
  have hS83:=hS82.pick2
  refine rSA 29 (.tmp 2) (.tmp 30) (enc_weirref05_Fault (⟨n54,n55,n56⟩ : weirref05_Fault)) hS83 (one_weirref05_Fault _) ?_
  intro w84 hS85
  refine sR 1 (.code p11_23::td357) ?_
  have hS86:=hS85.drop
  have hS87:=hS86.drop
  have hS88:=hS87.drop
  refine rRc (.agg (enc_weirref05_Fault (⟨n54,n55,n56⟩ : weirref05_Fault)).toArray) (.ca 2 29 (hS85.blk 0 rfl) .nil) Tryz.func11 ?_
  cases hq30 _ (Option.some.inj hp71)
  exact hR _ _ ⟨rfl,hS88⟩

noncomputable def cd12 (p : List Nat) : Code := sub (bodyOf Tryz.f12) p
abbrev p12_6:=cd12 [1,1,0,0,1,0,0]
abbrev p12_11:=cd12 [0,1,0,0,1,0,0]
abbrev td359:List Item:=[.code (cd12 [1])]
abbrev td360:List Item:=.inBlock 0::td359
abbrev td361:List Item:=.inLoop (cd12 [0,1,0,0])::td360
abbrev td362:List Item:=.code (cd12 [0,1,0,0])::td361
abbrev td363:List Item:=[.inBlock 2]
abbrev td364:List Item:=.inLoop (cd12 [1,1,0,0])::td363
abbrev td365:List Item:=.code (cd12 [1,1,0,0])::td364
def weirlaw06_spoil.l1 (t19 : List api_Node) (t23 : Int) : Option Unit :=
  (if (decide (t23 < 20)) = true then (if (t19.length + ([(⟨98,0,0,(⟨0,(⟨#[]⟩ : ByteArray)⟩ : api_Ref),0⟩ : api_Node)] : List api_Node).length) * 56 ≤ 140737488355328 then (weirlaw06_spoil.l1 (t19 ++ ([(⟨98,0,0,(⟨0,(⟨#[]⟩ : ByteArray)⟩ : api_Ref),0⟩ : api_Node)] : List api_Node)) (IntKind.i64.wrap (t23 + 1))) else none) else some (()))
 partial_fixpoint
def weirlaw06_spoil.l0 (t52 : Int) (t53 : List api_Node) : Option (List api_Node) :=
  (if (decide (t52 < (t53.length : Int))) = true then (if 0 ≤ t52 ∧ t52 < (t53.length : Int) then (weirlaw06_spoil.l0 (IntKind.i64.wrap (t52 + 1)) (setl t53 t52 (⟨99,0,0,(⟨0,(⟨#[]⟩ : ByteArray)⟩ : api_Ref),0⟩ : api_Node))) else none) else some (t53))
 partial_fixpoint
def weirlaw06_spoil.f (a0 : List api_Node) : Option Unit :=
  (weirlaw06_spoil.l0 0 a0 >>= (fun t4 => (weirlaw06_spoil.l1 t4 0 >>= (fun _ => some (())))))
theorem weirlaw06_spoil.ok {a0 : List api_Node} {Aa0 : Option Addr} {ca0 : Nat} (hp0 : weirlaw06_spoil.f a0 = some ()) (hS0 : St w0 Z (xrow Aa0 ca0 68 6 (a0.flatMap enc_api_Node)::fs) w) :
    Calls Tryz.prog 12 #[.slice Aa0 a0.length ca0] w (fun e w' => e = .returned (.tuple #[]) ∧ St w0 Z (fs) w'):=by
  refine calls_abs ?_; intro R hR
  unfold weirlaw06_spoil.f at hp0
  refine calls_of_runs (fn:=Tryz.f12) (c:=cd12 []) Tryz.func12 (by kernel_rfl) (al:=[.slice Aa0 a0.length ca0]) rfl (n:=21) rfl ?_
  refine sR 7 td362 ?_
  obtain ⟨v1,hv2,hp3⟩:=bind_some' hp0
  have J7 : ∀ (t4 : List api_Node) (he9 : t4 = v1) (l8 : List Value) (w5 : World) (hS6 : St w0 Z (xrow Aa0 ca0 68 6 (t4.flatMap enc_api_Node)::fs) w5),Runs Tryz.prog (fx 12) td359 (fill (mk 22 [(0,.slice Aa0 t4.length ca0)]) l8) w5 R:=by
   intro t4 he9 l8 w5 hS6
   subst he9
   try dsimp only at hp3
   refine sR 6 td365 ?_
   obtain ⟨v10,hv11,hp12⟩:=bind_some' hp3
   have J15 : ∀ (he17 : () = v10) (l16 : List Value) (w13 : World) (hS14 : St w0 Z (fs) w13),Runs Tryz.prog (fx 12) [] (fill (mk 22 []) l16) w13 R:=by
    intro he17 l16 w13 hS14
    subst he17
    try dsimp only at hp12
    refine runs_end (fn:=Tryz.f12) (v:=.tuple #[]) Tryz.func12 (by kernel_rfl) ?_
    cases Option.some.inj hp12
    exact hR _ _ ⟨rfl,hS14⟩
   have L32 : ∀ (t19 : List api_Node) (t23 : Int) (e27 : Unit),weirlaw06_spoil.l1 t19 t23 = some e27 → e27 = v10 → ∀ (l26 : List Value) (A20 : Option Addr) (c21 : Nat) (w24 : World) (hS25 : St w0 Z (xrow A20 c21 68 6 (t19.flatMap enc_api_Node)::fs) w24),Runs Tryz.prog (fx 12) td365 (fill (mk 22 [(0,.slice A20 t19.length c21),(3,.int .i64 t23)]) l26) w24 R:=by
    refine weirlaw06_spoil.l1.partial_correctness (fun t19 t23 e27 => e27 = v10 → ∀ (l26 : List Value) (A20 : Option Addr) (c21 : Nat) (w24 : World) (hS25 : St w0 Z (xrow A20 c21 68 6 (t19.flatMap enc_api_Node)::fs) w24),Runs Tryz.prog (fx 12) td365 (fill (mk 22 [(0,.slice A20 t19.length c21),(3,.int .i64 t23)]) l26) w24 R) ?_
    intro rec31 ih30 t19 t23 e27 hb29 he28 l26 A20 c21 w24 hS25
    refine sI 5 (.inRegion (opsOf (cd12 [1,1,0,0,0,0])) []::.code (cd12 [1,1,0,0,0,1])::.code (cd12 [1,1,0,0,1])::td364) 15 hb29 (fun hp35 => ?_) fun hp50 => ?_
    ·refine sR 8 (.inRegion (opsOf p12_6) [2,3,4]::.inBlock 3::.code (cd12 [1,1,0,0,1,1])::td364) ?_
     refine r_lit (c:=p12_6) (i:=2) (d:=(some 20)) (ty:=23) (t:=23) (e:=68) (sz:=6) (n:=1) (parts:=#[(0,(.tmp 19))]) (vs:=[(0,.agg (enc_api_Node (⟨98,0,0,(⟨0,(⟨#[]⟩ : ByteArray)⟩ : api_Ref),0⟩ : api_Node)).toArray)]) (z:=zeroOf Tryz.prog 68) (cs':=([(⟨98,0,0,(⟨0,(⟨#[]⟩ : ByteArray)⟩ : api_Ref),0⟩ : api_Node)] : List api_Node).flatMap enc_api_Node) hS25 (by kernel_rfl) (by kernel_rfl) (by kernel_rfl) (by kernel_rfl) (by kernel_rfl) (by decide) (by decide) (by kernel_rfl) rfl (Parts.cons (c:=enc_api_Node (⟨98,0,0,(⟨0,(⟨#[]⟩ : ByteArray)⟩ : api_Ref),0⟩ : api_Node)) (by kernel_rfl) (len_api_Node _) Parts.nil) rfl ?_
     intro b37 w38 hS39
     have hS40:=hS39.pick1
     obtain ⟨g41,hp42⟩:=ite_some hp35
     refine r_append (c:=p12_6) (i:=3) (d:=(some 21)) (ty:=23) (enc:=enc_api_Node) (e:=68) (u:=68) (t:=23) (t2:=23) (sz:=6) (cp:=c21) (A:=A20) (bytes:=56) (xs:=t19) (ys:=([(⟨98,0,0,(⟨0,(⟨#[]⟩ : ByteArray)⟩ : api_Ref),0⟩ : api_Node)] : List api_Node)) (s:=(.tmp 18)) (x:=(.tmp 20)) (xv:=.slice (some ⟨b37,0,none⟩) ([(⟨98,0,0,(⟨0,(⟨#[]⟩ : ByteArray)⟩ : api_Ref),0⟩ : api_Node)] : List api_Node).length 1) (info:=infoOf Tryz.prog 68) (z:=zeroOf Tryz.prog 68) (ycs:=([(⟨98,0,0,(⟨0,(⟨#[]⟩ : ByteArray)⟩ : api_Ref),0⟩ : api_Node)] : List api_Node).flatMap enc_api_Node) hS40 (by kernel_rfl) (by kernel_rfl) (by kernel_rfl) (by kernel_rfl) (by kernel_rfl) (.inl (by kernel_rfl)) (by kernel_rfl) (by kernel_rfl) (by kernel_rfl) (by kernel_rfl) (by kernel_rfl) (by omega) len_api_Node one_api_Node (src_row (hS40.row 1 rfl) (by omega) len_api_Node) rfl g41 (by omega) ?_
     intro A43 c44 w45 hS46
     refine sR 8 td364 ?_
     have hS48:=hS46.pick1
     have hS49:=hS48.drop
     refine sR 1 td365 ?_
     exact rF _ (ih30 (t19 ++ ([(⟨98,0,0,(⟨0,(⟨#[]⟩ : ByteArray)⟩ : api_Ref),0⟩ : api_Node)] : List api_Node)) (IntKind.i64.wrap (t23 + 1)) _ hp42 he28 _ A43 c44 _ hS49)
    refine sR 3 [] ?_
    have hS51:=hS25.drop
    exact rF _ (J15 ((Option.some.inj hp50).trans he28) _ _ hS51)
   exact rF _ (L32 t4 0 _ hv11 rfl _ Aa0 ca0 _ hS6)
  have L62 : ∀ (t52 : Int) (t53 : List api_Node) (e57 : (List api_Node)),weirlaw06_spoil.l0 t52 t53 = some e57 → e57 = v1 → ∀ (l56 : List Value) (w54 : World) (hS55 : St w0 Z (xrow Aa0 ca0 68 6 (t53.flatMap enc_api_Node)::fs) w54),Runs Tryz.prog (fx 12) td362 (fill (mk 22 [(0,.slice Aa0 t53.length ca0),(2,.int .i64 t52)]) l56) w54 R:=by
   refine weirlaw06_spoil.l0.partial_correctness (fun t52 t53 e57 => e57 = v1 → ∀ (l56 : List Value) (w54 : World) (hS55 : St w0 Z (xrow Aa0 ca0 68 6 (t53.flatMap enc_api_Node)::fs) w54),Runs Tryz.prog (fx 12) td362 (fill (mk 22 [(0,.slice Aa0 t53.length ca0),(2,.int .i64 t52)]) l56) w54 R) ?_
   intro rec61 ih60 t52 t53 e57 hb59 he58 l56 w54 hS55
   refine sI 7 (.inRegion (opsOf (cd12 [0,1,0,0,0,0])) []::.code (cd12 [0,1,0,0,0,1])::.code (cd12 [0,1,0,0,1])::td361) 7 hb59 (fun hp65 => ?_) fun hp74 => ?_
   ·refine sR 9 (.inRegion (opsOf p12_11) [3,4]::.inBlock 1::.code (cd12 [0,1,0,0,1,1])::td361) ?_
    obtain ⟨g66,hp67⟩:=ite_some hp65
    obtain ⟨b68,p69,hA70,-⟩:=(hS55.row 0 rfl).at_ len_api_Node (by omega) g66.1 g66.2
    refine r_indexAddr (c:=p12_11) (i:=3) (d:=(some 13)) (ty:=0) (t:=23) (e:=68) (n:=t53.length) (cp:=ca0) (sz:=6) (kk:=.i64) (x:=(.tmp 10)) (y:=(.tmp 11)) (b:=b68) (o':=p69) (j:=t52) (by kernel_rfl) (by kernel_rfl) (slv (by kernel_rfl) hA70) (by kernel_rfl) (by kernel_rfl) (by kernel_rfl) g66.1 g66.2 ?_
    refine r_storeEl (c:=p12_11) (i:=4) (d:=none) (ty:=0) (enc:=enc_api_Node) (e:=68) (t:=68) (sz:=6) (cp:=ca0) (A:=Aa0) (xs:=t53) (x:=(.tmp 13)) (y:=(.tmp 12)) (el:=gt t53 t52) (el':=(⟨99,0,0,(⟨0,(⟨#[]⟩ : ByteArray)⟩ : api_Ref),0⟩ : api_Node)) (j:=t52) (off:=0) (b:=b68) (p:=p69) (v:=.agg (enc_api_Node (⟨99,0,0,(⟨0,(⟨#[]⟩ : ByteArray)⟩ : api_Ref),0⟩ : api_Node)).toArray) (vs:=enc_api_Node (⟨99,0,0,(⟨0,(⟨#[]⟩ : ByteArray)⟩ : api_Ref),0⟩ : api_Node)) (ad:=⟨b68,p69 + t52.toNat * 6,none⟩) hS55 (by kernel_rfl) (by kernel_rfl) (by kernel_rfl) (by simp) (by kernel_rfl) hA70 g66 rfl len_api_Node (by kernel_rfl) (by kernel_rfl) (one_api_Node _) (by rw [len_api_Node]; omega) (by rw [len_api_Node]; omega) (by kernel_rfl) ?_
    intro w72 hS73
    refine rF [some (.slice Aa0 t53.length ca0),none,none,none,none,some (.slice Aa0 t53.length ca0),none,none,none,none,some (.slice Aa0 t53.length ca0),none,none,none,none,none,none,none,none,none,none,none] ?_
    refine Runs.refill (m':=[some (.slice Aa0 (setl t53 t52 (⟨99,0,0,(⟨0,(⟨#[]⟩ : ByteArray)⟩ : api_Ref),0⟩ : api_Node)).length ca0),none,none,none,none,some (.slice Aa0 (setl t53 t52 (⟨99,0,0,(⟨0,(⟨#[]⟩ : ByteArray)⟩ : api_Ref),0⟩ : api_Node)).length ca0),none,none,none,none,some (.slice Aa0 (setl t53 t52 (⟨99,0,0,(⟨0,(⟨#[]⟩ : ByteArray)⟩ : api_Ref),0⟩ : api_Node)).length ca0),none,none,none,none,none,none,none,none,none,none,none]) (by simp only [setl_len]) ?_
    refine sR 7 td361 ?_
    refine sR 1 td362 ?_
    exact rF _ (ih60 (IntKind.i64.wrap (t52 + 1)) (setl t53 t52 (⟨99,0,0,(⟨0,(⟨#[]⟩ : ByteArray)⟩ : api_Ref),0⟩ : api_Node)) _ hp67 he58 _ _ hS73)
   refine sR 3 td359 ?_
   exact rF _ (J7 t53 ((Option.some.inj hp74).trans he58) _ _ hS55)
  exact rF _ (L62 0 a0 _ hv2 rfl _ _ hS0)

noncomputable def cd3 (p : List Nat) : Code := sub (bodyOf Tryz.f3) p
abbrev p3_4:=cd3 [1,1,1,0]
abbrev p3_5:=cd3 [1,1,1,1]
abbrev p3_6:=cd3 [1,1,1,1,0,0]
abbrev p3_8:=cd3 [1,1,1,1,1]
abbrev p3_9:=cd3 [1,1,1,1,0,1,0,1]
def weirlaw06_CondParses.f (a0 : ByteArray) : Option Bool :=
  (cond_Parse.f a0 >>= (fun (t1,t2) => (cond_Parse.f a0 >>= (fun (t15,t16) => (weirref06_Parse.f a0 >>= (fun (t29,t30) => (weirlaw06_sameCond.f t1 t29 >>= (fun t44 => (if (!t44) = true then some (false) else (weirlaw06_sameCond.f t15 t29 >>= (fun t76 => (if (!t76) = true then some (false) else (weirlaw06_fault.f t2 >>= (fun t109 => (if (!(decide (t109 = t30))) = true then some (false) else (weirlaw06_spoil.f t1 >>= (fun _ => (weirlaw06_sameCond.f t15 t29 >>= (fun t135 => some (t135))))))))))))))))))))
theorem weirlaw06_CondParses.ok (a0 : ByteArray) (hS0 : St w0 Z (fs) w) (hE : Env Z) {q0 : Bool} (hp0 : weirlaw06_CondParses.f a0 = some q0) :
    Calls Tryz.prog 3 #[.string a0] w (fun e w' => e = .returned (.bool q0) ∧ St w0 Z (fs) w'):=by
  refine calls_abs ?_; intro R hR
  unfold weirlaw06_CondParses.f at hp0
  refine calls_of_runs (fn:=Tryz.f3) (c:=cd3 []) Tryz.func3 (by kernel_rfl) (al:=[.string a0]) rfl (n:=44) rfl ?_
  refine sR 7 [iR (cd3 [1,0]) 1 6,.code (cd3 [1,1])] ?_
  obtain ⟨⟨t1,t2⟩,hr6,hp7⟩:=bind_some' hp0
  try dsimp only at hp7
  refine rC (cond_Parse.ok hr6 hS0 hE) ?_
  rintro _ w10 ⟨Q3,Q4,Q5,Z12,hz13,rfl,hS11,hs14⟩
  refine ⟨_,rfl,?_⟩
  refine sR 9 [iR (cd3 [1,1,0]) 1 6,.code (cd3 [1,1,1])] ?_
  obtain ⟨⟨t15,t16⟩,hr20,hp21⟩:=bind_some' hp7
  try dsimp only at hp21
  refine rC (cond_Parse.ok hr20 hS11 (hE.up hz13)) ?_
  rintro _ w24 ⟨Q17,Q18,Q19,Z26,hz27,rfl,hS25,hs28⟩
  refine ⟨_,rfl,?_⟩
  refine sR 9 [iR p3_4 1 7,.code p3_5] ?_
  obtain ⟨⟨t29,t30⟩,hr33,hp34⟩:=bind_some' hp21
  try dsimp only at hp34
  refine rC (weirref06_Parse.ok hr33 hS25) ?_
  rintro _ w36 ⟨Q31,Q32,rfl,hS37⟩
  refine ⟨_,rfl,?_⟩
  refine sR 3 [.inRegion (opsOf p3_4) [5,6,7],.code p3_5] ?_
  refine rA 29 (.agg (enc_weirref05_Fault (⟨0,0,0⟩ : weirref05_Fault)).toArray) (enc_weirref05_Fault (⟨0,0,0⟩ : weirref05_Fault)) hS37 ?_
  intro b38 w39 hS40
  refine sR 1 [.inRegion (opsOf p3_4) [7],.code p3_5] ?_
  refine rSA 29 (.tmp 8) (.tmp 23) (enc_weirref05_Fault t30) hS40 (one_weirref05_Fault _) ?_
  intro w42 hS43
  refine sR 3 [.code p3_6,.code (cd3 [1,1,1,1,0,1]),.code p3_8] ?_
  refine r_quiet hS43 (c:=p3_6) (id:=4) (by kernel_rfl) (by kernel_rfl) (by kernel_rfl) (is:=[0,1,2,3,4,5,6,7,8,9,10,11,12,13,14,15]) (by kernel_rfl) ?_
  refine qR 2 (rg 2 14) ?_
  obtain ⟨t44,hr45,hp46⟩:=bind_some' hp34
  refine q_call1 (c:=p3_6) (i:=2) (d:=(some 26)) (v:=.bool t44) (g:=10) (args:=#[.slice Q3 t1.length Q4,.slice Q31 t29.length Q32]) (by kernel_rfl) (by kernel_rfl) (by kernel_rfl) (by kernel_rfl) (fun w hC => by
   have hS47:=hC.pick3
   obtain ⟨Z48,hz49,hS50,hs51,hb52⟩:=hS47.lendrow len_api_Node (by omega)
   have hS53:=hS50.pick1
   obtain ⟨Z54,hz55,hS56,hs57,hb58⟩:=hS53.lendrow len_api_Node (by omega)
   refine (weirlaw06_sameCond.ok hr45 hS56 (hs51.up hz55) hs57).mono ?_
   rintro e w2 ⟨rfl,h2⟩
   have hS59:=hb58 _ _ h2
   have hS60:=hb52 _ _ hS59
   have hS61:=hS60.pick3
   have hS62:=hS61.pick2
   have hS63:=hS62.pick3
   exact ⟨rfl,hS63⟩) ?_
  refine qI 1 (rg 4 12) 27 hp46 (fun hp66 => ?_) fun hp75 => ?_
  ·refine qR 12 [] ?_
   refine Qs.nil ?_
   intro w67 hS68
   refine sR 5 [.code p3_9,.code p3_8] ?_
   have hS69:=hS68.drop
   have hS70:=hS69.drop
   have hS71:=hS70.drop
   have hS72:=hS71.drop
   have hS73:=hS72.less (Zm.Le.trans hz13 hz27)
   refine rR (.bool false) Tryz.func3 ?_
   cases Option.some.inj hp66
   exact hR _ _ ⟨rfl,hS73⟩
  refine qR 3 (rg 7 9) ?_
  obtain ⟨t76,hr77,hp78⟩:=bind_some' hp75
  refine q_call1 (c:=p3_6) (i:=7) (d:=(some 31)) (v:=.bool t76) (g:=10) (args:=#[.slice Q17 t15.length Q18,.slice Q31 t29.length Q32]) (by kernel_rfl) (by kernel_rfl) (by kernel_rfl) (by kernel_rfl) (fun w hC => by
   have hS79:=hC.pick2
   obtain ⟨Z80,hz81,hS82,hs83,hb84⟩:=hS79.lendrow len_api_Node (by omega)
   have hS85:=hS82.pick1
   obtain ⟨Z86,hz87,hS88,hs89,hb90⟩:=hS85.lendrow len_api_Node (by omega)
   refine (weirlaw06_sameCond.ok hr77 hS88 (hs83.up hz87) hs89).mono ?_
   rintro e w2 ⟨rfl,h2⟩
   have hS91:=hb90 _ _ h2
   have hS92:=hb84 _ _ hS91
   have hS93:=hS92.pick3
   have hS94:=hS93.pick1
   have hS95:=hS94.pick2
   have hS96:=hS95.pick3
   exact ⟨rfl,hS96⟩) ?_
  refine qI 1 (rg 9 7) 32 hp78 (fun hp99 => ?_) fun hp108 => ?_
  ·refine qR 7 [] ?_
   refine Qs.nil ?_
   intro w100 hS101
   refine sR 5 [.code p3_9,.code p3_8] ?_
   have hS102:=hS101.drop
   have hS103:=hS102.drop
   have hS104:=hS103.drop
   have hS105:=hS104.drop
   have hS106:=hS105.less (Zm.Le.trans hz13 hz27)
   refine rR (.bool false) Tryz.func3 ?_
   cases Option.some.inj hp99
   exact hR _ _ ⟨rfl,hS106⟩
  refine qR 3 (rg 12 4) ?_
  obtain ⟨t109,hr110,hp111⟩:=bind_some' hp108
  refine q_call1 (c:=p3_6) (i:=12) (d:=(some 36)) (v:=.agg (enc_weirref05_Fault t109).toArray) (g:=11) (args:=#[Q5]) (by kernel_rfl) (by kernel_rfl) (by kernel_rfl) (by kernel_rfl) (fun w hC => by
   refine (weirlaw06_fault.ok hr110 hC (hs14.mono hz27) (hE.up (Zm.Le.trans hz13 hz27))).mono ?_
   rintro e w2 ⟨rfl,h2⟩
   have hS112:=h2.pick3
   have hS113:=hS112.pick3
   have hS114:=hS113.pick3
   have hS115:=hS114.pick3
   exact ⟨rfl,hS115⟩) ?_
  refine qLa 29 (.tmp 8) (fun w hC => (hC.blk 0 rfl)) ?_
  refine qV (.binOp .neq 29 (.tmp 36) (.tmp 37) 29) (.bool (!(decide (t109 = t30)))) (fun w hC o ho _ => x_neq_weirref05_Fault (by kernel_rfl) (by kernel_rfl) ho) ?_
  refine q_split (!(decide (t109 = t30))) (fun h116 => ?_) (fun h117 => ?_)
  ·have hp118:=ite_t hp111 h116
   refine qR 1 [] ?_
   refine Qs.nil ?_
   intro w119 hS120
   refine sR 5 [.code p3_9,.code p3_8] ?_
   have hS121:=hS120.drop
   have hS122:=hS121.drop
   have hS123:=hS122.drop
   have hS124:=hS123.drop
   have hS125:=hS124.less (Zm.Le.trans hz13 hz27)
   refine rR (.bool false) Tryz.func3 ?_
   cases Option.some.inj hp118
   exact hR _ _ ⟨rfl,hS125⟩
  have hp127:=ite_f hp111 h117
  refine qR 1 [] ?_
  refine Qs.nil ?_
  intro w128 hS129
  refine sR 5 [.inRegion (opsOf (cd3 [1,1,1,1,1,0])) [1],.code (cd3 [1,1,1,1,1,1])] ?_
  obtain ⟨_,hr130,hp131⟩:=bind_some' hp127
  have hS132:=hS129.pick3
  refine rC (weirlaw06_spoil.ok hr130 hS132) ?_
  rintro _ w133 ⟨rfl,hS134⟩
  refine ⟨_,rfl,?_⟩
  refine sR 5 [.inRegion (opsOf (cd3 [1,1,1,1,1,1,0])) [2,3],.code (cd3 [1,1,1,1,1,1,1])] ?_
  obtain ⟨t135,hr136,hp137⟩:=bind_some' hp131
  have hS138:=hS134.pick2
  obtain ⟨Z139,hz140,hS141,hs142,hb143⟩:=hS138.lendrow len_api_Node (by omega)
  have hS144:=hS141.pick1
  obtain ⟨Z145,hz146,hS147,hs148,hb149⟩:=hS144.lendrow len_api_Node (by omega)
  refine rC (weirlaw06_sameCond.ok hr136 hS147 (hs142.up hz146) hs148) ?_
  rintro _ w150 ⟨rfl,hS151⟩
  refine ⟨_,rfl,?_⟩
  have hS152:=hb149 _ _ hS151
  have hS153:=hb143 _ _ hS152
  refine sR 2 [.code (cd3 [1,1,1,1,1,1,1])] ?_
  have hS154:=hS153.drop
  have hS155:=hS154.drop
  have hS156:=hS155.drop
  have hS157:=hS156.less (Zm.Le.trans hz13 hz27)
  refine rR (.bool t135) Tryz.func3 ?_
  cases Option.some.inj hp137
  exact hR _ _ ⟨rfl,hS157⟩

end
end Go.Proofs.YtboejepakdnbgaaGreatDoor.K
