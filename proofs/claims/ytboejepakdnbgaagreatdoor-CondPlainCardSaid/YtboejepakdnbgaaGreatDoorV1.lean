/- The walk, part 1: each Go function as a plain Lean function, and that its call answers as that function says. No condition. -/
import Derived.Test.YtboejepakdnbgaaGreatDoorE
import Derived.Test.YtboejepakdnbgaaGreatDoorNG
import Derived.Test.YtboejepakdnbgaaGreatDoorNP
import Derived.Test.YtboejepakdnbgaaGreatDoorNI
import Derived.Test.YtboejepakdnbgaaGreatDoorNV
import Derived.Test.YtboejepakdnbgaaGreatDoorNX
import Derived.Test.YtboejepakdnbgaaGreatDoorNY
import Derived.Test.YtboejepakdnbgaaGreatDoorNC
import Derived.Test.YtboejepakdnbgaaGreatDoorNF
import Derived.Test.YtboejepakdnbgaaGreatDoorNB
import Derived.Test.YtboejepakdnbgaaGreatDoorNS
set_option linter.unusedVariables false
set_option linter.unusedSimpArgs false
set_option maxRecDepth 100000
namespace Go.Proofs.YtboejepakdnbgaaGreatDoor.K
open Go Go.RowKit
noncomputable section
set_option maxHeartbeats 16000000
variable {w0 : World} {Z : Zm} {fs : List XObj} {w : World}
noncomputable def cd42 (p : List Nat) : Code := sub (bodyOf Tryz.f42) p
def lexis_Tokens.f (a0 : ByteArray) : Option ByteArray :=
  some (a0)
theorem lexis_Tokens.ok {a0 q0 : ByteArray} (hp0 : lexis_Tokens.f a0 = some q0) (hS0 : St w0 Z (fs) w) :
    Calls Tryz.prog 42 #[.string a0] w (fun e w' => ∃ (Qb0 : Nat),e = .returned (.func (.func 66) #[] #[.pointer (some ⟨Qb0,0,none⟩)]) ∧ St w0 Z (xblk Qb0 9 ([.string q0])::fs) w'):=by
  refine calls_abs ?_; intro R hR
  unfold lexis_Tokens.f at hp0
  refine calls_of_runs (fn:=Tryz.f42) (c:=cd42 []) Tryz.func42 (by kernel_rfl) (al:=[.string a0]) rfl (n:=3) rfl ?_
  refine sR 2 [.inRegion (opsOf (cd42 [0])) [0,1],.code (cd42 [1])] ?_
  refine r_box (c:=(cd42 [0])) (i:=0) (d:=(some 1)) (ty:=0) (x:=(.tmp 0)) (v:=.string a0) (t:=9) (cs:=[.string a0]) hS0 (by kernel_rfl) (by kernel_rfl) (by kernel_rfl) (by kernel_rfl) ?_
  intro b1 w2 hS3
  refine sR 7 [.code (cd42 [1,1])] ?_
  refine rR (.func (.func 66) #[] #[.pointer (some ⟨b1,0,none⟩)]) Tryz.func42 ?_
  cases Option.some.inj hp0
  exact hR _ _ ⟨b1,rfl,hS3⟩

noncomputable def cd67 (p : List Nat) : Code := sub (bodyOf Tryz.f67) p
abbrev p67_4:=cd67 [1,1,1]
def lexis_New.f (a0 : ByteArray) : Option (ByteArray × Int × Int × Int × PErr) :=
  (if (decide ((a0.size : Int) > 1048576)) = true then some (((⟨#[]⟩ : ByteArray),0,1,1,(.num 1))) else some ((a0,0,1,1,.nil)))
theorem lexis_New.ok {a0 q0 : ByteArray} {q1 q2 q3 : Int} {q4 : PErr} (hp0 : lexis_New.f a0 = some (q0,q1,q2,q3,q4)) (hS0 : St w0 Z (fs) w) :
    Calls Tryz.prog 67 #[.string a0] w (fun e w' => ∃ (Qb0 : Nat) (Qv1 : Value),e = .returned (.pointer (some ⟨Qb0,0,none⟩)) ∧ St w0 Z (xblk Qb0 193 ([.string q0,.int .i64 q1,.int .i64 q2,.int .i64 q3,Qv1])::fs) w' ∧ RepE 37 78 Z Qv1 q4):=by
  refine calls_abs ?_; intro R hR
  unfold lexis_New.f at hp0
  refine calls_of_runs (fn:=Tryz.f67) (c:=cd67 []) Tryz.func67 (by kernel_rfl) (al:=[.string a0]) rfl (n:=17) rfl ?_
  refine sR 8 [.inRegion (opsOf (cd67 [1,0])) [2,3],.code (cd67 [1,1])] ?_
  refine r_box (c:=(cd67 [1,0])) (i:=2) (d:=(some 6)) (ty:=150) (x:=(.tmp 5)) (v:=.agg #[.string a0,.int .i64 0,.int .i64 1,.int .i64 1,.nilIface]) (t:=193) (cs:=[.string a0,.int .i64 0,.int .i64 1,.int .i64 1,.nilIface]) hS0 (by kernel_rfl) (by kernel_rfl) (by kernel_rfl) (by kernel_rfl) ?_
  intro b1 w2 hS3
  refine sI 8 [.inRegion (opsOf (cd67 [1,1,0,0])) [],.code (cd67 [1,1,0,1]),.code p67_4] 9 hp0 (fun hp7 => ?_) fun hp14 => ?_
  ·refine sR 8 [iR (cd67 [1,1,0,1,0]) 5 4,.code p67_4] ?_
   refine rS 9 (.tmp 14) (.const (.string (⟨#[]⟩ : ByteArray))) 0 (.string (⟨#[]⟩ : ByteArray)) [.string (⟨#[]⟩ : ByteArray)] [.string (⟨#[]⟩ : ByteArray),.int .i64 0,.int .i64 1,.int .i64 1,.nilIface] hS3 ?_
   intro w8 hS9
   refine sR 2 [.inRegion (opsOf (cd67 [1,1,0,1,0])) [8],.code p67_4] ?_
   refine rS 25 (.tmp 16) (.tmp 12) 4 (.iface 37 (.int .i64 1)) [.iface 37 (.int .i64 1)] [.string (⟨#[]⟩ : ByteArray),.int .i64 0,.int .i64 1,.int .i64 1,.iface 37 (.int .i64 1)] hS9 ?_
   intro w10 hS11
   refine sR 6 [.code (cd67 [1,1,1,1])] ?_
   refine rR (.pointer (some ⟨b1,0,none⟩)) Tryz.func67 ?_
   cases Option.some.inj hp7
   exact hR _ _ ⟨b1,(.iface 37 (.int .i64 1)),rfl,hS11,(RepE.of_num)⟩
  refine sR 8 [.code (cd67 [1,1,1,1])] ?_
  refine rR (.pointer (some ⟨b1,0,none⟩)) Tryz.func67 ?_
  cases Option.some.inj hp14
  exact hR _ _ ⟨b1,.nilIface,rfl,hS3,(RepE.of_nil)⟩

noncomputable def cd109 (p : List Nat) : Code := sub (bodyOf Tryz.f109) p
abbrev p109_6:=cd109 [0,1,0,0,1,1,0,0,0]
abbrev p109_9:=cd109 [0,1,0,0,1,1,0,0,1,0]
abbrev p109_10:=cd109 [0,1,0,0,1,1,0,0,1,1]
abbrev p109_13:=cd109 [0,1,0,0,1,1,0,0,1,1,1,0]
abbrev td1:List Item:=[.code (cd109 [1])]
abbrev td2:List Item:=.inBlock 0::td1
abbrev td3:List Item:=.inLoop (cd109 [0,1,0,0])::td2
abbrev td4:List Item:=.code (cd109 [0,1,0,0])::td3
abbrev td5:List Item:=.code (cd109 [0,1,0,0,1,1,1])::td3
abbrev td6:List Item:=.inBlock 1::td5
def lexis_Lexer__pass.l0 (y0 : ByteArray) (y1 a1 : Int) (t29 t30 t31 : Int) : Option (Int × Int) :=
  (if (decide (t29 < ((strBytes (y0.extract y1.toNat (IntKind.i64.wrap (y1 + a1)).toNat)).length : Int))) = true then (if 0 ≤ t29 ∧ t29 < ((strBytes (y0.extract y1.toNat (IntKind.i64.wrap (y1 + a1)).toNat)).length : Int) then (if ((gt (strBytes (y0.extract y1.toNat (IntKind.i64.wrap (y1 + a1)).toNat)) t29) == 10) = true then (lexis_Lexer__pass.l0 y0 y1 a1 (IntKind.i64.wrap (t29 + 1)) (IntKind.i64.wrap (t30 + 1)) 1) else (lexis_Lexer__pass.l0 y0 y1 a1 (IntKind.i64.wrap (t29 + 1)) (id t30) (IntKind.i64.wrap (t31 + 1)))) else none) else some ((t30,t31)))
 partial_fixpoint
def lexis_Lexer__pass.f (y0 : ByteArray) (y1 y2 : Int) (y3 a1 : Int) : Option (Int × Int × Int) :=
  (if 0 ≤ y1 ∧ y1 ≤ (IntKind.i64.wrap (y1 + a1)) ∧ (IntKind.i64.wrap (y1 + a1)) ≤ (y0.size : Int) then (if (y0.extract y1.toNat (IntKind.i64.wrap (y1 + a1)).toNat).size ≤ 140737488355328 then (lexis_Lexer__pass.l0 y0 y1 a1 0 y2 y3 >>= (fun (t18,t19) => some (((IntKind.i64.wrap (y1 + a1)),t18,t19)))) else none) else none)
theorem lexis_Lexer__pass.ok {y0 : ByteArray} {y1 y2 : Int} {y3 a1 : Int} {ba0 : Nat} {q0 q1 q2 : Int} (hp0 : lexis_Lexer__pass.f y0 y1 y2 y3 a1 = some (q0,q1,q2)) (hS0 : St w0 Z (xblk ba0 193 ([.string y0,.int .i64 y1,.int .i64 y2,.int .i64 y3,.nilIface])::fs) w) :
    Calls Tryz.prog 109 #[.pointer (some ⟨ba0,0,none⟩),.int .i64 a1] w (fun e w' => e = .returned (.tuple #[]) ∧ St w0 Z (xblk ba0 193 ([.string y0,.int .i64 q0,.int .i64 q1,.int .i64 q2,.nilIface])::fs) w'):=by
  refine calls_abs ?_; intro R hR
  unfold lexis_Lexer__pass.f at hp0
  refine calls_of_runs (fn:=Tryz.f109) (c:=cd109 []) Tryz.func109 (by kernel_rfl) (al:=[.pointer (some ⟨ba0,0,none⟩),.int .i64 a1]) rfl (n:=54) rfl ?_
  refine sR 2 (.code (cd109 [0,0])::.code (cd109 [0,1])::td1) ?_
  obtain ⟨g1,hp2⟩:=ite_some hp0
  obtain ⟨g5,hp6⟩:=ite_some hp2
  refine r_drawnP (S:=Option (Nat × Nat)) (dn:=(fun (st : Option (Nat × Nat)) k => [st.isSome].getD k true)) (C:=(fun st w' => match st with | none => St w0 Z (xblk ba0 193 ([.string y0,.int .i64 y1,.int .i64 y2,.int .i64 y3,.nilIface])::fs) w' | some p3 => St w0 Z (xsb p3.1 (y0.extract y1.toNat (IntKind.i64.wrap (y1 + a1)).toNat) p3.2::xblk ba0 193 ([.string y0,.int .i64 y1,.int .i64 y2,.int .i64 y3,.nilIface])::fs) w')) (v:=(fun st => match st with | none => [.pointer (some ⟨ba0,0,none⟩),.pointer (some ⟨ba0,0,none⟩),.pointer (some ⟨ba0,0,none⟩),.string y0,.pointer (some ⟨ba0,0,none⟩),.pointer (some ⟨ba0,0,none⟩),.pointer (some ⟨ba0,1,none⟩),.int .i64 y1,.pointer (some ⟨ba0,0,none⟩),.pointer (some ⟨ba0,0,none⟩),.pointer (some ⟨ba0,1,none⟩),.int .i64 y1,.int .i64 a1,.int .i64 (IntKind.i64.wrap (y1 + a1)),.string (y0.extract y1.toNat (IntKind.i64.wrap (y1 + a1)).toNat),undef,undef,.int .i64 0] | some p3 => [.pointer (some ⟨ba0,0,none⟩),.pointer (some ⟨ba0,0,none⟩),.pointer (some ⟨ba0,0,none⟩),.string y0,.pointer (some ⟨ba0,0,none⟩),.pointer (some ⟨ba0,0,none⟩),.pointer (some ⟨ba0,1,none⟩),.int .i64 y1,.pointer (some ⟨ba0,0,none⟩),.pointer (some ⟨ba0,0,none⟩),.pointer (some ⟨ba0,1,none⟩),.int .i64 y1,.int .i64 a1,.int .i64 (IntKind.i64.wrap (y1 + a1)),.string (y0.extract y1.toNat (IntKind.i64.wrap (y1 + a1)).toNat),.slice (some ⟨p3.1,0,none⟩) (strBytes (y0.extract y1.toNat (IntKind.i64.wrap (y1 + a1)).toNat)).length p3.2,.int .i64 ((strBytes (y0.extract y1.toNat (IntKind.i64.wrap (y1 + a1)).toNat)).length : Int),.int .i64 0])) (c:=(cd109 [0,0])) (id:=0) none 0 18 [15] [[],[],[],[],[],[],[],[],[],[],[],[],[],[],[],[],[0],[]] [[],[],[],[],[],[],[],[],[],[],[],[],[],[],[0],[],[],[]] [] [true,true,true,true,true,true,true,true,true,true,true,true,true,true,true,true,true,true] (by kernel_rfl) (by kernel_rfl) (by kernel_rfl) (by kernel_rfl) (by kernel_rfl) (by kernel_rfl) (by kernel_rfl) (by kernel_rfl) (by kernel_rfl) (fun k hk => match k,hk with | 0,_ => rfl | k + 1,hk => absurd hk (by simp)) hS0.drew ?_ (fun k hk => match k,hk with | 0,_ => rfl | k + 1,hk => absurd hk (by simp)) ?_ ?_ ?_
  ·intro i hi st w hC hd
   match i,hi with
   | 0,_ => (show _ = _; kernel_rfl)
   | 1,_ => (show _ = _; kernel_rfl)
   | 2,_ => (show _ = _; kernel_rfl)
   | 3,_ => (show _ = _; kernel_rfl)
   | 4,_ => (show _ = _; kernel_rfl)
   | 5,_ => (show _ = _; kernel_rfl)
   | 6,_ => (show _ = _; kernel_rfl)
   | 7,_ => (show _ = _; kernel_rfl)
   | 8,_ => (show _ = _; kernel_rfl)
   | 9,_ => (show _ = _; kernel_rfl)
   | 10,_ => (show _ = _; kernel_rfl)
   | 11,_ => (show _ = _; kernel_rfl)
   | 12,_ => (show _ = _; kernel_rfl)
   | 13,_ => (show _ = _; kernel_rfl)
   | 14,_ => (show _ = _; kernel_rfl)
   | 15,_ => (show _ = _; kernel_rfl)
   | 16,_ => (show _ = _; kernel_rfl)
   | 17,_ => (show _ = _; kernel_rfl)
   | i + 18,hi => exact absurd hi (by omega)
  ·intro i hi he st w hC hd hu
   match i,hi,he with
   | 0,_,_ =>
    rcases st with _ | p3
    ·dsimp only at hC
     exact dG (.pointer (some ⟨ba0,0,none⟩)) hC
    ·dsimp only at hC
     exact dG (.pointer (some ⟨ba0,0,none⟩)) hC
   | 1,_,_ =>
    rcases st with _ | p3
    ·dsimp only at hC
     exact dG (.pointer (some ⟨ba0,0,none⟩)) hC
    ·dsimp only at hC
     exact dG (.pointer (some ⟨ba0,0,none⟩)) hC
   | 2,_,_ =>
    rcases st with _ | p3
    ·dsimp only at hC
     exact dG (.pointer (some ⟨ba0,0,none⟩)) hC
    ·dsimp only at hC
     exact dG (.pointer (some ⟨ba0,0,none⟩)) hC
   | 3,_,_ =>
    rcases st with _ | p3
    ·dsimp only at hC
     exact ⟨fun _ => does_run (x_load (t:=9) (x:=(.tmp 8)) (p:=⟨ba0,0,none⟩) (v:=.string y0) (by kernel_rfl) (loads_at 0 (hC.blk 0 rfl) (by kernel_rfl) (by kernel_rfl)) (by kernel_rfl)) rfl hC,fun h => absurd h (by decide)⟩
    ·dsimp only at hC
     exact ⟨fun _ => does_run (x_load (t:=9) (x:=(.tmp 8)) (p:=⟨ba0,0,none⟩) (v:=.string y0) (by kernel_rfl) (loads_at 0 (hC.blk 1 rfl) (by kernel_rfl) (by kernel_rfl)) (by kernel_rfl)) rfl hC,fun h => absurd h (by decide)⟩
   | 4,_,_ =>
    rcases st with _ | p3
    ·dsimp only at hC
     exact dG (.pointer (some ⟨ba0,0,none⟩)) hC
    ·dsimp only at hC
     exact dG (.pointer (some ⟨ba0,0,none⟩)) hC
   | 5,_,_ =>
    rcases st with _ | p3
    ·dsimp only at hC
     exact dG (.pointer (some ⟨ba0,0,none⟩)) hC
    ·dsimp only at hC
     exact dG (.pointer (some ⟨ba0,0,none⟩)) hC
   | 6,_,_ =>
    rcases st with _ | p3
    ·dsimp only at hC
     exact dG (.pointer (some ⟨ba0,1,none⟩)) hC
    ·dsimp only at hC
     exact dG (.pointer (some ⟨ba0,1,none⟩)) hC
   | 7,_,_ =>
    rcases st with _ | p3
    ·dsimp only at hC
     exact ⟨fun _ => does_run (x_load (t:=3) (x:=(.tmp 12)) (p:=⟨ba0,1,none⟩) (v:=.int .i64 y1) (by kernel_rfl) (loads_at 1 (hC.blk 0 rfl) (by kernel_rfl) (by kernel_rfl)) (by kernel_rfl)) rfl hC,fun h => absurd h (by decide)⟩
    ·dsimp only at hC
     exact ⟨fun _ => does_run (x_load (t:=3) (x:=(.tmp 12)) (p:=⟨ba0,1,none⟩) (v:=.int .i64 y1) (by kernel_rfl) (loads_at 1 (hC.blk 1 rfl) (by kernel_rfl) (by kernel_rfl)) (by kernel_rfl)) rfl hC,fun h => absurd h (by decide)⟩
   | 8,_,_ =>
    rcases st with _ | p3
    ·dsimp only at hC
     exact dG (.pointer (some ⟨ba0,0,none⟩)) hC
    ·dsimp only at hC
     exact dG (.pointer (some ⟨ba0,0,none⟩)) hC
   | 9,_,_ =>
    rcases st with _ | p3
    ·dsimp only at hC
     exact dG (.pointer (some ⟨ba0,0,none⟩)) hC
    ·dsimp only at hC
     exact dG (.pointer (some ⟨ba0,0,none⟩)) hC
   | 10,_,_ =>
    rcases st with _ | p3
    ·dsimp only at hC
     exact dG (.pointer (some ⟨ba0,1,none⟩)) hC
    ·dsimp only at hC
     exact dG (.pointer (some ⟨ba0,1,none⟩)) hC
   | 11,_,_ =>
    rcases st with _ | p3
    ·dsimp only at hC
     exact ⟨fun _ => does_run (x_load (t:=3) (x:=(.tmp 16)) (p:=⟨ba0,1,none⟩) (v:=.int .i64 y1) (by kernel_rfl) (loads_at 1 (hC.blk 0 rfl) (by kernel_rfl) (by kernel_rfl)) (by kernel_rfl)) rfl hC,fun h => absurd h (by decide)⟩
    ·dsimp only at hC
     exact ⟨fun _ => does_run (x_load (t:=3) (x:=(.tmp 16)) (p:=⟨ba0,1,none⟩) (v:=.int .i64 y1) (by kernel_rfl) (loads_at 1 (hC.blk 1 rfl) (by kernel_rfl) (by kernel_rfl)) (by kernel_rfl)) rfl hC,fun h => absurd h (by decide)⟩
   | 12,_,_ =>
    rcases st with _ | p3
    ·dsimp only at hC
     exact dG (.int .i64 a1) hC
    ·dsimp only at hC
     exact dG (.int .i64 a1) hC
   | 13,_,_ =>
    rcases st with _ | p3
    ·dsimp only at hC
     exact dG (.int .i64 (IntKind.i64.wrap (y1 + a1))) hC
    ·dsimp only at hC
     exact dG (.int .i64 (IntKind.i64.wrap (y1 + a1))) hC
   | 14,_,_ =>
    rcases st with _ | p3
    ·dsimp only at hC
     exact ⟨fun _ => does_run (x_cutStr_ss (t:=9) (x:=(.tmp 9)) (lo:=(.tmp 13)) (hi:=(.tmp 19)) (k:=.i64) (k':=.i64) (by kernel_rfl) (by kernel_rfl) (by kernel_rfl) (by kernel_rfl) g1 (by kernel_rfl)) rfl hC,fun h => absurd h (by decide)⟩
    ·exact Bool.noConfusion (hu 0 (by decide))
   | 15,_,he => exact absurd he (by decide)
   | 16,_,_ =>
    rcases st with _ | p3
    ·exact Bool.noConfusion (hd 0 (by decide))
    ·dsimp only at hC
     exact dG (.int .i64 ((strBytes (y0.extract y1.toNat (IntKind.i64.wrap (y1 + a1)).toNat)).length : Int)) hC
   | 17,_,_ =>
    rcases st with _ | p3
    ·dsimp only at hC
     exact dG (.int .i64 0) hC
    ·dsimp only at hC
     exact dG (.int .i64 0) hC
   | i + 18,hi,_ => exact absurd hi (by omega)
  ·intro k hk st w hC hr hm
   match k,hk with
   | 0,_ =>
    rcases st with _ | p3
    ·dsimp only at hC
     refine does_strBytes (t1:=9) (t2:=54) (e:=5) (x:=(.tmp 20)) (s:=(y0.extract y1.toNat (IntKind.i64.wrap (y1 + a1)).toNat)) hC (by kernel_rfl) (by kernel_rfl) (by kernel_rfl) (by kernel_rfl) (by kernel_rfl) g5 ?_
     intro b c w2 h2
     have h2:=h2.pick1
     have h2:=h2.pick1
     refine ⟨some (b,c),rfl,?_,?_,.inr rfl,h2⟩
     ·intro m hne; match m,hne with
      | 0,hne => exact absurd rfl hne
      | m + 1,_ => exact rfl
     ·intro j hj; match j,hj with
      | 0,hj => exact rfl
      | 1,hj => exact rfl
      | 2,hj => exact rfl
      | 3,hj => exact rfl
      | 4,hj => exact rfl
      | 5,hj => exact rfl
      | 6,hj => exact rfl
      | 7,hj => exact rfl
      | 8,hj => exact rfl
      | 9,hj => exact rfl
      | 10,hj => exact rfl
      | 11,hj => exact rfl
      | 12,hj => exact rfl
      | 13,hj => exact rfl
      | 14,hj => exact rfl
      | 15,hj => exact absurd (by decide) hj
      | 16,hj => exact absurd (by decide) hj
      | 17,hj => exact rfl
      | j + 18,_ => exact rfl
    ·exact Bool.noConfusion hr
   | k + 1,hk => exact absurd hk (by simp)
  intro st10 w7 hS8 hr9
  rcases st10 with _ | p3
  ·exact Bool.noConfusion (hr9 0 (Nat.lt_of_sub_eq_succ rfl))
  replace hS8 : St w0 Z (xsb p3.1 (y0.extract y1.toNat (IntKind.i64.wrap (y1 + a1)).toNat) p3.2::xblk ba0 193 ([.string y0,.int .i64 y1,.int .i64 y2,.int .i64 y3,.nilIface])::fs) w7:=hS8
  obtain ⟨Z11,hz12,hS13,hs14⟩:=hS8.lendsb
  refine sR 2 td4 ?_
  obtain ⟨v15,hv16,hp17⟩:=bind_some' hp6
  have J22 : ∀ (t18 t19 : Int) (he24 : (t18,t19) = v15) (l23 : List Value) (w20 : World) (hS21 : St w0 Z11 (xblk ba0 193 ([.string y0,.int .i64 y1,.int .i64 t18,.int .i64 t19,.nilIface])::fs) w20),Runs Tryz.prog (fx 109) td1 (fill (mk 56 [(0,.pointer (some ⟨ba0,0,none⟩)),(1,.int .i64 a1)]) l23) w20 R:=by
   intro t18 t19 he24 l23 w20 hS21
   subst he24
   try dsimp only at hp17
   refine sR 4 [iR (cd109 [1]) 3 6] ?_
   refine rL1 3 (.tmp 50) 1 (hS21.blk 0 rfl) ?_
   refine sR 4 [.inRegion (opsOf (cd109 [1])) [8]] ?_
   refine rS 3 (.tmp 55) (.tmp 53) 1 (.int .i64 (IntKind.i64.wrap (y1 + a1))) [.int .i64 (IntKind.i64.wrap (y1 + a1))] [.string y0,.int .i64 (IntKind.i64.wrap (y1 + a1)),.int .i64 t18,.int .i64 t19,.nilIface] hS21 ?_
   intro w25 hS26
   refine sR 1 [] ?_
   have hS27:=hS26.less hz12
   refine runs_end (fn:=Tryz.f109) (v:=.tuple #[]) Tryz.func109 (by kernel_rfl) ?_
   cases Option.some.inj hp17
   exact hR _ _ ⟨rfl,hS27⟩
  have L40 : ∀ (t29 t30 t31 : Int) (e35 : (Int × Int)),lexis_Lexer__pass.l0 y0 y1 a1 t29 t30 t31 = some e35 → e35 = v15 → ∀ (l34 : List Value) (w32 : World) (hS33 : St w0 Z11 (xblk ba0 193 ([.string y0,.int .i64 y1,.int .i64 t30,.int .i64 t31,.nilIface])::fs) w32),Runs Tryz.prog (fx 109) td4 (fill (mk 56 [(0,.pointer (some ⟨ba0,0,none⟩)),(1,.int .i64 a1),(21,.slice (some ⟨p3.1,0,none⟩) (strBytes (y0.extract y1.toNat (IntKind.i64.wrap (y1 + a1)).toNat)).length p3.2),(22,.int .i64 ((strBytes (y0.extract y1.toNat (IntKind.i64.wrap (y1 + a1)).toNat)).length : Int)),(23,.int .i64 t29)]) l34) w32 R:=by
   refine lexis_Lexer__pass.l0.partial_correctness y0 y1 a1 (fun t29 t30 t31 e35 => e35 = v15 → ∀ (l34 : List Value) (w32 : World) (hS33 : St w0 Z11 (xblk ba0 193 ([.string y0,.int .i64 y1,.int .i64 t30,.int .i64 t31,.nilIface])::fs) w32),Runs Tryz.prog (fx 109) td4 (fill (mk 56 [(0,.pointer (some ⟨ba0,0,none⟩)),(1,.int .i64 a1),(21,.slice (some ⟨p3.1,0,none⟩) (strBytes (y0.extract y1.toNat (IntKind.i64.wrap (y1 + a1)).toNat)).length p3.2),(22,.int .i64 ((strBytes (y0.extract y1.toNat (IntKind.i64.wrap (y1 + a1)).toNat)).length : Int)),(23,.int .i64 t29)]) l34) w32 R) ?_
   intro rec39 ih38 t29 t30 t31 e35 hb37 he36 l34 w32 hS33
   refine sI 3 (.inRegion (opsOf (cd109 [0,1,0,0,0])) []::.code (cd109 [0,1,0,0,1])::td3) 24 hb37 (fun hp43 => ?_) fun hp60 => ?_
   ·refine sR 8 (.inRegion (opsOf p109_6) [0,1,2]::.code (cd109 [0,1,0,0,1,1,0,0,1])::td6) ?_
    obtain ⟨g44,hp45⟩:=ite_some hp43
    obtain ⟨b46,p47,hA48,hc49⟩:=hs14.atF g44.1 g44.2
    refine r_indexAddr (c:=p109_6) (i:=0) (d:=(some 25)) (ty:=0) (t:=54) (e:=5) (n:=(strBytes (y0.extract y1.toNat (IntKind.i64.wrap (y1 + a1)).toNat)).length) (cp:=p3.2) (sz:=1) (kk:=.i64) (x:=(.tmp 21)) (y:=(.tmp 23)) (b:=b46) (o':=p47) (j:=t29) (by kernel_rfl) (by kernel_rfl) (slv (by kernel_rfl) hA48) (by kernel_rfl) (by kernel_rfl) (by kernel_rfl) g44.1 g44.2 ?_
    refine rL1 5 (.tmp 25) 0 (hc49.cells hS33) ?_
    refine sR 7 (iR p109_9 3 5::.code p109_10::td6) ?_
    refine rL1 3 (.tmp 29) 3 (hS33.blk 0 rfl) ?_
    refine sR 3 (.inRegion (opsOf p109_9) [7]::.code p109_10::td6) ?_
    refine rS 3 (.tmp 33) (.tmp 31) 3 (.int .i64 (IntKind.i64.wrap (t31 + 1))) [.int .i64 (IntKind.i64.wrap (t31 + 1))] [.string y0,.int .i64 y1,.int .i64 t30,.int .i64 (IntKind.i64.wrap (t31 + 1)),.nilIface] hS33 ?_
    intro w50 hS51
    refine sI 5 (.inRegion (opsOf (cd109 [0,1,0,0,1,1,0,0,1,1,0])) []::.code (cd109 [0,1,0,0,1,1,0,0,1,1,1])::td6) 35 hp45 (fun hp54 => ?_) fun hp59 => ?_
    ·refine sR 8 (iR p109_13 5 8::td6) ?_
     refine rL1 3 (.tmp 40) 2 (hS51.blk 0 rfl) ?_
     refine sR 3 (iR p109_13 9 4::td6) ?_
     refine rS 3 (.tmp 44) (.tmp 42) 2 (.int .i64 (IntKind.i64.wrap (t30 + 1))) [.int .i64 (IntKind.i64.wrap (t30 + 1))] [.string y0,.int .i64 y1,.int .i64 (IntKind.i64.wrap (t30 + 1)),.int .i64 (IntKind.i64.wrap (t31 + 1)),.nilIface] hS51 ?_
     intro w55 hS56
     refine sR 2 (.inRegion (opsOf p109_13) [12]::td6) ?_
     refine rS 3 (.tmp 46) (.const (.int .i64 1)) 3 (.int .i64 1) [.int .i64 1] [.string y0,.int .i64 y1,.int .i64 (IntKind.i64.wrap (t30 + 1)),.int .i64 1,.nilIface] hS56 ?_
     intro w57 hS58
     refine sR 6 td3 ?_
     refine sR 1 td4 ?_
     exact rF _ (ih38 (IntKind.i64.wrap (t29 + 1)) (IntKind.i64.wrap (t30 + 1)) 1 _ hp54 he36 _ _ hS58)
    refine sR 8 td3 ?_
    refine sR 1 td4 ?_
    exact rF _ (ih38 (IntKind.i64.wrap (t29 + 1)) (id t30) (IntKind.i64.wrap (t31 + 1)) _ hp59 he36 _ _ hS51)
   refine sR 4 td1 ?_
   exact rF _ (J22 t30 t31 ((Option.some.inj hp60).trans he36) _ _ hS33)
  exact rF _ (L40 0 y2 y3 _ hv16 rfl _ _ hS13)

noncomputable def cd133 (p : List Nat) : Code := sub (bodyOf Tryz.f133) p
abbrev p133_8:=cd133 [1,1,0,1,0,0,1,0,0,0]
abbrev p133_9:=cd133 [1,1,0,1,0,0,1,0,0,1]
abbrev p133_18:=cd133 [1,1,0,1,0,0,1,0,0,1,0,1,1,1,0,1,1,1,0,1]
abbrev td7:List Item:=[.code (cd133 [1,1,1])]
abbrev td8:List Item:=.inBlock 0::td7
abbrev td9:List Item:=.inLoop (cd133 [1,1,0,1,0,0])::td8
abbrev td10:List Item:=.code (cd133 [1,1,0,1,0,0])::td9
abbrev td11:List Item:=.code (cd133 [1,1,0,1,0,0,1,1])::td9
abbrev td12:List Item:=.inBlock 1::td11
abbrev td13:List Item:=.inBlock 2::td12
def lexis_Lexer__comment.l0 (y0 : ByteArray) (y1 t11 t12 : Int) : Option (Sum Unit Int) :=
  (if (decide ((IntKind.i64.wrap (t12 + 1)) < (y0.size : Int))) = true then (if 0 ≤ t12 ∧ t12 ≤ (IntKind.i64.wrap (t12 + 2)) ∧ (IntKind.i64.wrap (t12 + 2)) ≤ (y0.size : Int) then (if (seq (y0.extract t12.toNat (IntKind.i64.wrap (t12 + 2)).toNat) (⟨#[40,42]⟩ : ByteArray)) = true then (lexis_Lexer__comment.l0 y0 y1 (IntKind.i64.wrap (t11 + 1)) (IntKind.i64.wrap ((IntKind.i64.wrap (t12 + 1)) + 1))) else (if (seq (y0.extract t12.toNat (IntKind.i64.wrap (t12 + 2)).toNat) (⟨#[42,41]⟩ : ByteArray)) = true then (if ((IntKind.i64.wrap (t11 - 1)) == 0) = true then some (.inr ((IntKind.i64.wrap ((IntKind.i64.wrap ((IntKind.i64.wrap (t12 + 1)) + 1)) - y1)))) else (lexis_Lexer__comment.l0 y0 y1 (IntKind.i64.wrap (t11 - 1)) (IntKind.i64.wrap ((IntKind.i64.wrap (t12 + 1)) + 1)))) else (lexis_Lexer__comment.l0 y0 y1 (id t11) (IntKind.i64.wrap (t12 + 1))))) else none) else some (.inl ()))
 partial_fixpoint
def lexis_Lexer__comment.f (y0 : ByteArray) (y1 y2 y3 : Int) : Option Int :=
  (lexis_Lexer__comment.l0 y0 y1 0 y1 >>= (fun | .inl () => some ((-1)) | .inr e => some e))
theorem lexis_Lexer__comment.ok {y0 : ByteArray} {y1 y2 y3 : Int} {ba0 : Nat} {q0 : Int} (hp0 : lexis_Lexer__comment.f y0 y1 y2 y3 = some q0) (hS0 : St w0 Z (xblk ba0 193 ([.string y0,.int .i64 y1,.int .i64 y2,.int .i64 y3,.nilIface])::fs) w) :
    Calls Tryz.prog 133 #[.pointer (some ⟨ba0,0,none⟩)] w (fun e w' => e = .returned (.int .i64 q0) ∧ St w0 Z (xblk ba0 193 ([.string y0,.int .i64 y1,.int .i64 y2,.int .i64 y3,.nilIface])::fs) w'):=by
  refine calls_abs ?_; intro R hR
  unfold lexis_Lexer__comment.f at hp0
  refine calls_of_runs (fn:=Tryz.f133) (c:=cd133 []) Tryz.func133 (by kernel_rfl) (al:=[.pointer (some ⟨ba0,0,none⟩)]) rfl (n:=47) rfl ?_
  refine sR 14 (.inRegion (opsOf (cd133 [1,1,0,0])) [3,4]::.code (cd133 [1,1,0,1])::td7) ?_
  refine rL1 3 (.tmp 7) 1 (hS0.blk 0 rfl) ?_
  refine sR 4 td10 ?_
  obtain ⟨v1,hv2,hp3⟩:=bind_some' hp0
  have hq6 : ∀ x,Sum.inr x = v1 → x = q0:=by intro x hx; subst hx; simpa using hp3
  have J7 : ∀ (he9 : Sum.inl () = v1) (l8 : List Value) (w4 : World) (hS5 : St w0 Z (xblk ba0 193 ([.string y0,.int .i64 y1,.int .i64 y2,.int .i64 y3,.nilIface])::fs) w4),Runs Tryz.prog (fx 133) td7 (fill (mk 48 []) l8) w4 R:=by
   intro he9 l8 w4 hS5
   subst he9
   try dsimp only at hp3
   refine sR 4 [.code (cd133 [1,1,1,1])] ?_
   refine rR (.int .i64 (-1)) Tryz.func133 ?_
   cases Option.some.inj hp3
   exact hR _ _ ⟨rfl,hS5⟩
  have L21 : ∀ (t11 t12 : Int) (e16 : Sum Unit Int),lexis_Lexer__comment.l0 y0 y1 t11 t12 = some e16 → e16 = v1 → ∀ (l15 : List Value) (w13 : World) (hS14 : St w0 Z (xblk ba0 193 ([.string y0,.int .i64 y1,.int .i64 y2,.int .i64 y3,.nilIface])::fs) w13),Runs Tryz.prog (fx 133) td10 (fill (mk 48 [(0,.pointer (some ⟨ba0,0,none⟩)),(3,.int .i64 t11),(4,.int .i64 t12)]) l15) w13 R:=by
   refine lexis_Lexer__comment.l0.partial_correctness y0 y1 (fun t11 t12 e16 => e16 = v1 → ∀ (l15 : List Value) (w13 : World) (hS14 : St w0 Z (xblk ba0 193 ([.string y0,.int .i64 y1,.int .i64 y2,.int .i64 y3,.nilIface])::fs) w13),Runs Tryz.prog (fx 133) td10 (fill (mk 48 [(0,.pointer (some ⟨ba0,0,none⟩)),(3,.int .i64 t11),(4,.int .i64 t12)]) l15) w13 R) ?_
   intro rec20 ih19 t11 t12 e16 hb18 he17 l15 w13 hS14
   have hq22 : ∀ x,Sum.inr x = e16 → x = q0:=fun x hx => hq6 x (hx.trans he17)
   refine sR 8 (.inRegion (opsOf (cd133 [1,1,0,1,0,0,0,0])) [5,6,7]::.code (cd133 [1,1,0,1,0,0,0,1])::.code (cd133 [1,1,0,1,0,0,1])::td9) ?_
   refine rL1 9 (.tmp 13) 0 (hS14.blk 0 rfl) ?_
   refine sI 2 (.inRegion (opsOf (cd133 [1,1,0,1,0,0,0,0])) []::.code (cd133 [1,1,0,1,0,0,0,1])::.code (cd133 [1,1,0,1,0,0,1])::td9) 16 hb18 (fun hp25 => ?_) fun hp41 => ?_
   ·refine sR 10 (iR p133_8 3 5::.code p133_9::td12) ?_
    refine rL1 9 (.tmp 21) 0 (hS14.blk 0 rfl) ?_
    refine sR 3 (.inRegion (opsOf p133_8) [7]::.code p133_9::td12) ?_
    obtain ⟨g26,hp27⟩:=ite_some hp25
    refine rV (.slice 9 (.tmp 22) (some (.tmp 23)) (some (.tmp 25)) none) (.string (y0.extract t12.toNat (IntKind.i64.wrap (t12 + 2)).toNat)) (fun o ho _ => x_cutStr_ss (k:=.i64) (k':=.i64) (by kernel_rfl) (by kernel_rfl) (by kernel_rfl) (by kernel_rfl) g26 ho) ?_
    refine sI 5 (.inRegion (opsOf (cd133 [1,1,0,1,0,0,1,0,0,1,0,0])) [1]::.code (cd133 [1,1,0,1,0,0,1,0,0,1,0,1])::td13) 28 hp27 (fun hp30 => ?_) fun hp31 => ?_
    ·refine sR 21 td9 ?_
     refine sR 1 td10 ?_
     exact rF _ (ih19 (IntKind.i64.wrap (t11 + 1)) (IntKind.i64.wrap ((IntKind.i64.wrap (t12 + 1)) + 1)) _ hp30 he17 _ _ hS14)
    refine sI 6 (.inRegion (opsOf (cd133 [1,1,0,1,0,0,1,0,0,1,0,1,1,0])) [1]::.code (cd133 [1,1,0,1,0,0,1,0,0,1,0,1,1,1])::td13) 34 hp31 (fun hp34 => ?_) fun hp40 => ?_
    ·refine sI 19 (.inRegion (opsOf (cd133 [1,1,0,1,0,0,1,0,0,1,0,1,1,1,0,1,1,0])) []::.code (cd133 [1,1,0,1,0,0,1,0,0,1,0,1,1,1,0,1,1,1])::td13) 40 hp34 (fun hp37 => ?_) fun hp39 => ?_
     ·refine sR 9 (.inRegion (opsOf (cd133 [1,1,0,1,0,0,1,0,0,1,0,1,1,1,0,1,1,1,0,0])) [5,6,7]::.code p133_18::td13) ?_
      refine rL1 3 (.tmp 45) 1 (hS14.blk 0 rfl) ?_
      refine sR 3 (.code p133_18::td13) ?_
      refine r_isret (c:=p133_18) (by kernel_rfl) ?_
      refine rR (.int .i64 (IntKind.i64.wrap ((IntKind.i64.wrap ((IntKind.i64.wrap (t12 + 1)) + 1)) - y1))) Tryz.func133 ?_
      cases hq22 _ (Option.some.inj hp37)
      exact hR _ _ ⟨rfl,hS14⟩
     refine sR 10 td9 ?_
     refine sR 1 td10 ?_
     exact rF _ (ih19 (IntKind.i64.wrap (t11 - 1)) (IntKind.i64.wrap ((IntKind.i64.wrap (t12 + 1)) + 1)) _ hp39 he17 _ _ hS14)
    refine sR 11 td9 ?_
    refine sR 1 td10 ?_
    exact rF _ (ih19 (id t11) (IntKind.i64.wrap (t12 + 1)) _ hp40 he17 _ _ hS14)
   refine sR 3 td7 ?_
   exact rF _ (J7 ((Option.some.inj hp41).trans he17) _ _ hS14)
  exact rF _ (L21 0 y1 _ hv2 rfl _ _ hS0)

noncomputable def cd100 (p : List Nat) : Code := sub (bodyOf Tryz.f100) p
abbrev p100_6:=cd100 [1,0,0,0,1,0,0,0]
abbrev p100_9:=cd100 [1,0,0,0,1,0,0,1,1,0]
abbrev p100_16:=cd100 [1,0,0,0,1,0,0,1,1,1,0,1,1]
abbrev p100_17:=cd100 [1,0,0,0,1,0,0,1,1,1,0,1,0,1,0,1]
abbrev td14:List Item:=[.code (cd100 [1,1])]
abbrev td15:List Item:=.inBlock 0::td14
abbrev td16:List Item:=.inLoop (cd100 [1,0,0,0])::td15
abbrev td17:List Item:=.code (cd100 [1,0,0,0])::td16
abbrev td18:List Item:=.inBlock 1::td16
abbrev td19:List Item:=.inBlock 2::td18
def lexis_Lexer__blanks.l0 (y0 : ByteArray) (t14 t15 t16 : Int) : Option (Sum (Int × Int × Int) (Bool × Int × Int × Int)) :=
  (if (decide (t14 < (y0.size : Int))) = true then (if 0 ≤ t14 ∧ t14 < (y0.size : Int) then (strings_IndexByte.f (⟨#[32,9,13,10]⟩ : ByteArray) (byt y0 t14) >>= (fun t34 => (if (decide (t34 ≥ 0)) = true then (lexis_Lexer__pass.f y0 t14 t15 t16 1 >>= (fun (t42,t43,t44) => (lexis_Lexer__blanks.l0 y0 t42 t43 t44))) else (if 0 ≤ t14 ∧ t14 ≤ (y0.size : Int) then (strings_HasPrefix.f (y0.extract t14.toNat y0.size) (⟨#[40,42]⟩ : ByteArray) >>= (fun t54 => (if t54 = true then (lexis_Lexer__comment.f y0 t14 t15 t16 >>= (fun t62 => (if (decide (t62 < 0)) = true then some (.inr ((false,t14,t15,t16))) else (lexis_Lexer__pass.f y0 t14 t15 t16 t62 >>= (fun (t72,t73,t74) => (lexis_Lexer__blanks.l0 y0 t72 t73 t74)))))) else some (.inr ((true,t14,t15,t16)))))) else none)))) else none) else some (.inl (t14,t15,t16)))
 partial_fixpoint
def lexis_Lexer__blanks.f (y0 : ByteArray) (y1 y2 y3 : Int) : Option (Bool × Int × Int × Int) :=
  (lexis_Lexer__blanks.l0 y0 y1 y2 y3 >>= (fun | .inl (t4,t5,t6) => some ((true,t4,t5,t6)) | .inr e => some e))
theorem lexis_Lexer__blanks.ok {y0 : ByteArray} {y1 y2 y3 : Int} {ba0 : Nat} {q0 : Bool} {q1 q2 q3 : Int} (hp0 : lexis_Lexer__blanks.f y0 y1 y2 y3 = some (q0,q1,q2,q3)) (hS0 : St w0 Z (xblk ba0 193 ([.string y0,.int .i64 y1,.int .i64 y2,.int .i64 y3,.nilIface])::fs) w) :
    Calls Tryz.prog 100 #[.pointer (some ⟨ba0,0,none⟩)] w (fun e w' => e = .returned (.bool q0) ∧ St w0 Z (xblk ba0 193 ([.string y0,.int .i64 q1,.int .i64 q2,.int .i64 q3,.nilIface])::fs) w'):=by
  refine calls_abs ?_; intro R hR
  unfold lexis_Lexer__blanks.f at hp0
  refine calls_of_runs (fn:=Tryz.f100) (c:=cd100 []) Tryz.func100 (by kernel_rfl) (al:=[.pointer (some ⟨ba0,0,none⟩)]) rfl (n:=45) rfl ?_
  refine sR 7 td17 ?_
  obtain ⟨v1,hv2,hp3⟩:=bind_some' hp0
  have hq9 : ∀ x,Sum.inr x = v1 → x = (q0,q1,q2,q3):=by intro x hx; subst hx; simpa using hp3
  have J10 : ∀ (t4 t5 t6 : Int) (he12 : Sum.inl (t4,t5,t6) = v1) (l11 : List Value) (w7 : World) (hS8 : St w0 Z (xblk ba0 193 ([.string y0,.int .i64 t4,.int .i64 t5,.int .i64 t6,.nilIface])::fs) w7),Runs Tryz.prog (fx 100) td14 (fill (mk 46 []) l11) w7 R:=by
   intro t4 t5 t6 he12 l11 w7 hS8
   subst he12
   try dsimp only at hp3
   refine sR 4 [.code (cd100 [1,1,1])] ?_
   refine rR (.bool true) Tryz.func100 ?_
   cases Option.some.inj hp3
   exact hR _ _ ⟨rfl,hS8⟩
  have L25 : ∀ (t14 t15 t16 : Int) (e20 : Sum (Int × Int × Int) (Bool × Int × Int × Int)),lexis_Lexer__blanks.l0 y0 t14 t15 t16 = some e20 → e20 = v1 → ∀ (l19 : List Value) (w17 : World) (hS18 : St w0 Z (xblk ba0 193 ([.string y0,.int .i64 t14,.int .i64 t15,.int .i64 t16,.nilIface])::fs) w17),Runs Tryz.prog (fx 100) td17 (fill (mk 46 [(0,.pointer (some ⟨ba0,0,none⟩))]) l19) w17 R:=by
   refine lexis_Lexer__blanks.l0.partial_correctness y0 (fun t14 t15 t16 e20 => e20 = v1 → ∀ (l19 : List Value) (w17 : World) (hS18 : St w0 Z (xblk ba0 193 ([.string y0,.int .i64 t14,.int .i64 t15,.int .i64 t16,.nilIface])::fs) w17),Runs Tryz.prog (fx 100) td17 (fill (mk 46 [(0,.pointer (some ⟨ba0,0,none⟩))]) l19) w17 R) ?_
   intro rec24 ih23 t14 t15 t16 e20 hb22 he21 l19 w17 hS18
   have hq26 : ∀ x,Sum.inr x = e20 → x = (q0,q1,q2,q3):=fun x hx => hq9 x (hx.trans he21)
   refine sR 2 (.code (cd100 [1,0,0,0,0,0])::.code (cd100 [1,0,0,0,0,1])::.code (cd100 [1,0,0,0,1])::td16) ?_
   refine r_quiet hS18 (c:=(cd100 [1,0,0,0,0,0])) (id:=1) (by kernel_rfl) (by kernel_rfl) (by kernel_rfl) (is:=[0,1,2,3,4,5,6,7,8,9]) (by kernel_rfl) ?_
   refine qR 3 (rg 3 7) ?_
   refine qL1 3 (.tmp 6) 1 (fun w hC => (hC.blk 0 rfl)) ?_
   refine qR 3 [7,8,9] ?_
   refine qL1 9 (.tmp 10) 0 (fun w hC => (hC.blk 0 rfl)) ?_
   refine qI 2 [] 13 hb22 (fun hp29 => ?_) fun hp79 => ?_
   ·refine Qs.nil ?_
    intro w30 hS31
    refine sR 5 (.code p100_6::.code (cd100 [1,0,0,0,1,0,0,1])::td19) ?_
    refine r_quiet hS31 (c:=p100_6) (id:=3) (by kernel_rfl) (by kernel_rfl) (by kernel_rfl) (is:=[0,1,2,3,4,5,6,7,8,9,10,11]) (by kernel_rfl) ?_
    refine qR 3 (rg 3 9) ?_
    refine qL1 9 (.tmp 17) 0 (fun w hC => (hC.blk 0 rfl)) ?_
    refine qR 3 (rg 7 5) ?_
    refine qL1 3 (.tmp 21) 1 (fun w hC => (hC.blk 0 rfl)) ?_
    obtain ⟨g32,hp33⟩:=ite_some hp29
    refine qV (.index 9 (.tmp 18) (.tmp 22)) (.int .u8 (byt y0 t14)) (fun w hC o ho _ => x_indexStr (kk:=.i64) (by kernel_rfl) (by kernel_rfl) (by kernel_rfl) g32.1 g32.2 ho) ?_
    obtain ⟨t34,hr35,hp36⟩:=bind_some' hp33
    refine q_call1 (c:=p100_6) (i:=9) (d:=(some 24)) (v:=.int .i64 t34) (g:=131) (args:=#[.string (⟨#[32,9,13,10]⟩ : ByteArray),.int .u8 (byt y0 t14)]) (by kernel_rfl) (by kernel_rfl) (by kernel_rfl) (by kernel_rfl) (fun w hC => by
     refine (strings_IndexByte.ok (⟨#[32,9,13,10]⟩ : ByteArray) (byt y0 t14) hC hr35).mono ?_
     rintro e w2 ⟨rfl,h2⟩
     exact ⟨rfl,h2⟩) ?_
    refine qI 1 [11] 25 hp36 (fun hp39 => ?_) fun hp49 => ?_
    ·refine qR 1 [] ?_
     refine Qs.nil ?_
     intro w40 hS41
     refine sR 3 (.inRegion (opsOf (cd100 [1,0,0,0,1,0,0,1,0])) [1]::td19) ?_
     obtain ⟨⟨t42,t43,t44⟩,hr45,hp46⟩:=bind_some' hp39
     try dsimp only at hp46
     refine rC (lexis_Lexer__pass.ok hr45 hS41) ?_
     rintro _ w47 ⟨rfl,hS48⟩
     refine ⟨_,rfl,?_⟩
     refine sR 3 td16 ?_
     refine sR 1 td17 ?_
     exact rF _ (ih23 t42 t43 t44 _ hp46 he21 _ _ hS48)
    refine qR 1 [] ?_
    refine Qs.nil ?_
    intro w50 hS51
    refine sR 2 (.code p100_9::.code (cd100 [1,0,0,0,1,0,0,1,1,1])::td19) ?_
    refine r_quiet hS51 (c:=p100_9) (id:=5) (by kernel_rfl) (by kernel_rfl) (by kernel_rfl) (is:=[0,1,2,3,4,5,6,7,8,9,10]) (by kernel_rfl) ?_
    refine qR 3 (rg 3 8) ?_
    refine qL1 9 (.tmp 31) 0 (fun w hC => (hC.blk 0 rfl)) ?_
    refine qR 3 (rg 7 4) ?_
    refine qL1 3 (.tmp 35) 1 (fun w hC => (hC.blk 0 rfl)) ?_
    obtain ⟨g52,hp53⟩:=ite_some hp49
    refine qV (.slice 9 (.tmp 32) (some (.tmp 36)) none none) (.string (y0.extract t14.toNat y0.size)) (fun w hC o ho _ => x_cutStr_sn (k:=.i64) (by kernel_rfl) (by kernel_rfl) (by kernel_rfl) g52 ho) ?_
    obtain ⟨t54,hr55,hp56⟩:=bind_some' hp53
    refine q_call1 (c:=p100_9) (i:=9) (d:=(some 38)) (v:=.bool t54) (g:=132) (args:=#[.string (y0.extract t14.toNat y0.size),.string (⟨#[40,42]⟩ : ByteArray)]) (by kernel_rfl) (by kernel_rfl) (by kernel_rfl) (by kernel_rfl) (fun w hC => by
     refine (strings_HasPrefix.ok (y0.extract t14.toNat y0.size) (⟨#[40,42]⟩ : ByteArray) hC hr55).mono ?_
     rintro e w2 ⟨rfl,h2⟩
     exact ⟨rfl,h2⟩) ?_
    refine qR 1 [] ?_
    refine Qs.nil ?_
    intro w57 hS58
    cases t54
    ·have hp59:=ite_f hp56 rfl
     refine sR 5 (.code (cd100 [1,0,0,0,1,0,0,1,1,1,1,1])::td19) ?_
     refine rR (.bool true) Tryz.func100 ?_
     cases hq26 _ (Option.some.inj hp59)
     exact hR _ _ ⟨rfl,hS58⟩
    have hp61:=ite_t hp56 rfl
    refine sR 4 (.inRegion (opsOf (cd100 [1,0,0,0,1,0,0,1,1,1,0,0])) [1,2]::.code (cd100 [1,0,0,0,1,0,0,1,1,1,0,1])::td19) ?_
    obtain ⟨t62,hr63,hp64⟩:=bind_some' hp61
    refine rC (lexis_Lexer__comment.ok hr63 hS58) ?_
    rintro _ w65 ⟨rfl,hS66⟩
    refine ⟨_,rfl,?_⟩
    refine sI 7 (.inRegion (opsOf (cd100 [1,0,0,0,1,0,0,1,1,1,0,1,0,0])) []::.code (cd100 [1,0,0,0,1,0,0,1,1,1,0,1,0,1])::.code p100_16::td19) 42 hp64 (fun hp69 => ?_) fun hp71 => ?_
    ·refine sR 6 (.code p100_17::.code p100_16::td19) ?_
     refine r_isret (c:=p100_17) (by kernel_rfl) ?_
     refine rR (.bool false) Tryz.func100 ?_
     cases hq26 _ (Option.some.inj hp69)
     exact hR _ _ ⟨rfl,hS66⟩
    refine sR 6 (.inRegion (opsOf p100_16) [2]::td19) ?_
    obtain ⟨⟨t72,t73,t74⟩,hr75,hp76⟩:=bind_some' hp71
    try dsimp only at hp76
    refine rC (lexis_Lexer__pass.ok hr75 hS66) ?_
    rintro _ w77 ⟨rfl,hS78⟩
    refine ⟨_,rfl,?_⟩
    refine sR 3 td16 ?_
    refine sR 1 td17 ?_
    exact rF _ (ih23 t72 t73 t74 _ hp76 he21 _ _ hS78)
   refine Qs.nil ?_
   intro w80 hS81
   refine sR 2 td14 ?_
   exact rF _ (J10 t14 t15 t16 ((Option.some.inj hp79).trans he21) _ _ hS81)
  exact rF _ (L25 y1 y2 y3 _ hv2 rfl _ _ hS0)

noncomputable def cd26 (p : List Nat) : Code := sub (bodyOf Tryz.f26) p
abbrev p26_2:=cd26 [1,1]
abbrev p26_7:=cd26 [1,1,1,1]
def lexis_Place.f (a0 : ByteArray) (a1 : Int) : Option (Int × Int × Bool) :=
  (if (decide (a1 < 0)) = true then some ((0,0,false)) else (if (decide (a1 > (a0.size : Int))) = true then some ((0,0,false)) else (if 0 ≤ a1 ∧ a1 ≤ (a0.size : Int) then (strings_Count.f (a0.extract 0 a1.toNat) (⟨#[10]⟩ : ByteArray) >>= (fun t13 => (strings_LastIndexByte.f (a0.extract 0 a1.toNat) 10 >>= (fun t18 => some (((IntKind.i64.wrap (1 + t13)),(IntKind.i64.wrap (a1 - t18)),true)))))) else none)))
theorem lexis_Place.ok {a0 : ByteArray} {a1 q0 q1 : Int} {q2 : Bool} (hp0 : lexis_Place.f a0 a1 = some (q0,q1,q2)) (hS0 : St w0 Z (fs) w) :
    Calls Tryz.prog 26 #[.string a0,.int .i64 a1] w (fun e w' => e = .returned (.tuple #[.int .i64 q0,.int .i64 q1,.bool q2]) ∧ St w0 Z (fs) w'):=by
  refine calls_abs ?_; intro R hR
  unfold lexis_Place.f at hp0
  refine calls_of_runs (fn:=Tryz.f26) (c:=cd26 []) Tryz.func26 (by kernel_rfl) (al:=[.string a0,.int .i64 a1]) rfl (n:=24) rfl ?_
  refine sI 11 [iR (cd26 [1,0,0]) 2 6,.code (cd26 [1,0,1]),.code p26_2] 9 hp0 (fun hp3 => ?_) fun hp5 => ?_
  ·refine sR 14 [.code (cd26 [1,0,1,0,1]),.code p26_2] ?_
   refine rR (.tuple #[.int .i64 0,.int .i64 0,.bool false]) Tryz.func26 ?_
   cases Option.some.inj hp3
   exact hR _ _ ⟨rfl,hS0⟩
  refine sI 5 [.inRegion (opsOf (cd26 [1,0,0])) [7],.code (cd26 [1,0,1]),.code p26_2] 14 hp5 (fun hp8 => ?_) fun hp10 => ?_
  ·refine sR 9 [.code (cd26 [1,0,1,0,1]),.code p26_2] ?_
   refine rR (.tuple #[.int .i64 0,.int .i64 0,.bool false]) Tryz.func26 ?_
   cases Option.some.inj hp8
   exact hR _ _ ⟨rfl,hS0⟩
  refine sR 8 [.inRegion (opsOf (cd26 [1,1,0])) [2,3],.code (cd26 [1,1,1])] ?_
  obtain ⟨g11,hp12⟩:=ite_some hp10
  refine rV (.slice 9 (.tmp 16) none (some (.tmp 17)) none) (.string (a0.extract 0 a1.toNat)) (fun o ho _ => x_cutStr_ns (k:=.i64) (by kernel_rfl) (by kernel_rfl) (by kernel_rfl) g11 ho) ?_
  refine sR 5 [iR (cd26 [1,1,1,0]) 1 9,.code p26_7] ?_
  obtain ⟨t13,hr14,hp15⟩:=bind_some' hp12
  refine rC (strings_Count.ok (a0.extract 0 a1.toNat) (⟨#[10]⟩ : ByteArray) hS0 hr14) ?_
  rintro _ w16 ⟨rfl,hS17⟩
  refine ⟨_,rfl,?_⟩
  refine sR 3 [iR (cd26 [1,1,1,0]) 5 5,.code p26_7] ?_
  obtain ⟨t18,hr19,hp20⟩:=bind_some' hp15
  refine rC (strings_LastIndexByte.ok (a0.extract 0 a1.toNat) 10 hS17 hr19) ?_
  rintro _ w21 ⟨rfl,hS22⟩
  refine ⟨_,rfl,?_⟩
  refine sR 5 [.code p26_7] ?_
  refine rR (.tuple #[.int .i64 (IntKind.i64.wrap (1 + t13)),.int .i64 (IntKind.i64.wrap (a1 - t18)),.bool true]) Tryz.func26 ?_
  cases Option.some.inj hp20
  exact hR _ _ ⟨rfl,hS22⟩

noncomputable def cd102 (p : List Nat) : Code := sub (bodyOf Tryz.f102) p
abbrev p102_0:=cd102 [1,0]
abbrev td20:List Item:=[.code (cd102 [1,1])]
abbrev td21:List Item:=.inRegion (opsOf p102_0) [17,18]::td20
def lexis_letter.f (a0 : Int) : Option Bool :=
  (if (decide (a0 ≥ 97)) = true then (if (decide (a0 ≤ 122)) = true then some (true) else (if (decide (a0 ≥ 65)) = true then (if (decide (a0 ≤ 90)) = true then some (true) else (if (a0 == 95) = true then some (true) else some (false))) else (if (a0 == 95) = true then some (true) else some (false)))) else (if (decide (a0 ≥ 65)) = true then (if (decide (a0 ≤ 90)) = true then some (true) else (if (a0 == 95) = true then some (true) else some (false))) else (if (a0 == 95) = true then some (true) else some (false))))
theorem lexis_letter.ok {a0 : Int} {q0 : Bool} (hp0 : lexis_letter.f a0 = some q0) (hS0 : St w0 Z (fs) w) :
    Calls Tryz.prog 102 #[.int .u8 a0] w (fun e w' => e = .returned (.bool q0) ∧ St w0 Z (fs) w'):=by
  refine calls_abs ?_; intro R hR
  unfold lexis_letter.f at hp0
  refine calls_of_runs (fn:=Tryz.f102) (c:=cd102 []) Tryz.func102 (by kernel_rfl) (al:=[.int .u8 a0]) rfl (n:=20) rfl ?_
  refine sI 8 (iR p102_0 2 17::td20) 4 hp0 (fun hp3 => ?_) fun hp30 => ?_
  ·refine sI 3 (iR p102_0 5 14::td20) 7 hp3 (fun hp6 => ?_) fun hp8 => ?_
   ·refine sR 15 td20 ?_
    refine rR (.bool true) Tryz.func102 ?_
    cases Option.some.inj hp6
    exact hR _ _ ⟨rfl,hS0⟩
   refine sI 4 (iR p102_0 9 10::td20) 11 hp8 (fun hp11 => ?_) fun hp23 => ?_
   ·refine sI 3 (iR p102_0 12 7::td20) 14 hp11 (fun hp14 => ?_) fun hp16 => ?_
    ·refine sR 8 td20 ?_
     refine rR (.bool true) Tryz.func102 ?_
     cases Option.some.inj hp14
     exact hR _ _ ⟨rfl,hS0⟩
    refine sI 5 td21 19 hp16 (fun hp19 => ?_) fun hp21 => ?_
    ·refine sR 3 td20 ?_
     refine rR (.bool true) Tryz.func102 ?_
     cases Option.some.inj hp19
     exact hR _ _ ⟨rfl,hS0⟩
    refine sR 3 td20 ?_
    refine rR (.bool false) Tryz.func102 ?_
    cases Option.some.inj hp21
    exact hR _ _ ⟨rfl,hS0⟩
   refine sI 8 td21 19 hp23 (fun hp26 => ?_) fun hp28 => ?_
   ·refine sR 3 td20 ?_
    refine rR (.bool true) Tryz.func102 ?_
    cases Option.some.inj hp26
    exact hR _ _ ⟨rfl,hS0⟩
   refine sR 3 td20 ?_
   refine rR (.bool false) Tryz.func102 ?_
   cases Option.some.inj hp28
   exact hR _ _ ⟨rfl,hS0⟩
  refine sI 7 (iR p102_0 9 10::td20) 11 hp30 (fun hp33 => ?_) fun hp45 => ?_
  ·refine sI 3 (iR p102_0 12 7::td20) 14 hp33 (fun hp36 => ?_) fun hp38 => ?_
   ·refine sR 8 td20 ?_
    refine rR (.bool true) Tryz.func102 ?_
    cases Option.some.inj hp36
    exact hR _ _ ⟨rfl,hS0⟩
   refine sI 5 td21 19 hp38 (fun hp41 => ?_) fun hp43 => ?_
   ·refine sR 3 td20 ?_
    refine rR (.bool true) Tryz.func102 ?_
    cases Option.some.inj hp41
    exact hR _ _ ⟨rfl,hS0⟩
   refine sR 3 td20 ?_
   refine rR (.bool false) Tryz.func102 ?_
   cases Option.some.inj hp43
   exact hR _ _ ⟨rfl,hS0⟩
  refine sI 8 td21 19 hp45 (fun hp48 => ?_) fun hp50 => ?_
  ·refine sR 3 td20 ?_
   refine rR (.bool true) Tryz.func102 ?_
   cases Option.some.inj hp48
   exact hR _ _ ⟨rfl,hS0⟩
  refine sR 3 td20 ?_
  refine rR (.bool false) Tryz.func102 ?_
  cases Option.some.inj hp50
  exact hR _ _ ⟨rfl,hS0⟩

noncomputable def cd104 (p : List Nat) : Code := sub (bodyOf Tryz.f104) p
abbrev p104_1:=cd104 [1,1]
def lexis_digit.f (a0 : Int) : Option Bool :=
  (if (decide (a0 ≥ 48)) = true then (if (decide (a0 ≤ 57)) = true then some (true) else some (false)) else some (false))
theorem lexis_digit.ok {a0 : Int} {q0 : Bool} (hp0 : lexis_digit.f a0 = some q0) (hS0 : St w0 Z (fs) w) :
    Calls Tryz.prog 104 #[.int .u8 a0] w (fun e w' => e = .returned (.bool q0) ∧ St w0 Z (fs) w'):=by
  refine calls_abs ?_; intro R hR
  unfold lexis_digit.f at hp0
  refine calls_of_runs (fn:=Tryz.f104) (c:=cd104 []) Tryz.func104 (by kernel_rfl) (al:=[.int .u8 a0]) rfl (n:=8) rfl ?_
  refine sI 8 [iR (cd104 [1,0]) 2 5,.code p104_1] 4 hp0 (fun hp3 => ?_) fun hp10 => ?_
  ·refine sI 3 [.inRegion (opsOf (cd104 [1,0])) [5,6],.code p104_1] 7 hp3 (fun hp6 => ?_) fun hp8 => ?_
   ·refine sR 3 [.code p104_1] ?_
    refine rR (.bool true) Tryz.func104 ?_
    cases Option.some.inj hp6
    exact hR _ _ ⟨rfl,hS0⟩
   refine sR 3 [.code p104_1] ?_
   refine rR (.bool false) Tryz.func104 ?_
   cases Option.some.inj hp8
   exact hR _ _ ⟨rfl,hS0⟩
  refine sR 6 [.code p104_1] ?_
  refine rR (.bool false) Tryz.func104 ?_
  cases Option.some.inj hp10
  exact hR _ _ ⟨rfl,hS0⟩

noncomputable def cd105 (p : List Nat) : Code := sub (bodyOf Tryz.f105) p
def lexis_byteAt.f (a0 : ByteArray) (a1 : Int) : Option Int :=
  (if (decide (a1 < (a0.size : Int))) = true then (if 0 ≤ a1 ∧ a1 < (a0.size : Int) then some ((byt a0 a1)) else none) else some (0))
theorem lexis_byteAt.ok {a0 : ByteArray} {a1 q0 : Int} (hp0 : lexis_byteAt.f a0 a1 = some q0) (hS0 : St w0 Z (fs) w) :
    Calls Tryz.prog 105 #[.string a0,.int .i64 a1] w (fun e w' => e = .returned (.int .u8 q0) ∧ St w0 Z (fs) w'):=by
  refine calls_abs ?_; intro R hR
  unfold lexis_byteAt.f at hp0
  refine calls_of_runs (fn:=Tryz.f105) (c:=cd105 []) Tryz.func105 (by kernel_rfl) (al:=[.string a0,.int .i64 a1]) rfl (n:=10) rfl ?_
  refine sI 11 [.inRegion (opsOf (cd105 [1,0,0])) [],.code (cd105 [1,0,1]),.code (cd105 [1,1])] 8 hp0 (fun hp3 => ?_) fun hp7 => ?_
  ·refine sR 6 [.inRegion (opsOf (cd105 [1,0,1,0,0])) [2,3],.code (cd105 [1,0,1,0,1]),.code (cd105 [1,1])] ?_
   obtain ⟨g4,hp5⟩:=ite_some hp3
   refine rV (.index 9 (.tmp 9) (.tmp 10)) (.int .u8 (byt a0 a1)) (fun o ho _ => x_indexStr (kk:=.i64) (by kernel_rfl) (by kernel_rfl) (by kernel_rfl) g4.1 g4.2 ho) ?_
   refine sR 2 [.code (cd105 [1,0,1,0,1]),.code (cd105 [1,1])] ?_
   refine rR (.int .u8 (byt a0 a1)) Tryz.func105 ?_
   cases Option.some.inj hp5
   exact hR _ _ ⟨rfl,hS0⟩
  refine sR 7 [.code (cd105 [1,1,1])] ?_
  refine rR (.int .u8 0) Tryz.func105 ?_
  cases Option.some.inj hp7
  exact hR _ _ ⟨rfl,hS0⟩

noncomputable def cd164 (p : List Nat) : Code := sub (bodyOf Tryz.f164) p
abbrev p164_4:=cd164 [1,0,0,1,1,0]
abbrev p164_7:=cd164 [1,1,1]
abbrev td22:List Item:=[.code (cd164 [1,1])]
abbrev td23:List Item:=.inBlock 0::td22
abbrev td24:List Item:=.code (cd164 [1,0,0,1,1,1])::td23
def utf8_ValidRune.f (a0 : Int) : Option Bool :=
  (if (decide (0 ≤ a0)) = true then (if (decide (a0 < 55296)) = true then some (true) else (if (decide (57343 < a0)) = true then (if (decide (a0 ≤ 1114111)) = true then some (true) else some (false)) else some (false))) else (if (decide (57343 < a0)) = true then (if (decide (a0 ≤ 1114111)) = true then some (true) else some (false)) else some (false)))
theorem utf8_ValidRune.ok {a0 : Int} {q0 : Bool} (hp0 : utf8_ValidRune.f a0 = some q0) (hS0 : St w0 Z (fs) w) :
    Calls Tryz.prog 164 #[.int .i32 a0] w (fun e w' => e = .returned (.bool q0) ∧ St w0 Z (fs) w'):=by
  refine calls_abs ?_; intro R hR
  unfold utf8_ValidRune.f at hp0
  refine calls_of_runs (fn:=Tryz.f164) (c:=cd164 []) Tryz.func164 (by kernel_rfl) (al:=[.int .i32 a0]) rfl (n:=16) rfl ?_
  refine sI 10 (iR (cd164 [1,0,0,0]) 2 5::.code (cd164 [1,0,0,1])::td23) 5 hp0 (fun hp3 => ?_) fun hp20 => ?_
  ·refine sI 3 (.inRegion (opsOf (cd164 [1,0,0,0])) [5,6]::.code (cd164 [1,0,0,1])::td23) 8 hp3 (fun hp6 => ?_) fun hp8 => ?_
   ·refine sR 8 (.code (cd164 [1,0,0,1,0,1])::td23) ?_
    refine rR (.bool true) Tryz.func164 ?_
    cases Option.some.inj hp6
    exact hR _ _ ⟨rfl,hS0⟩
   refine sI 8 (iR p164_4 2 5::td24) 12 hp8 (fun hp11 => ?_) fun hp18 => ?_
   ·refine sI 3 (.inRegion (opsOf p164_4) [5,6]::td24) 15 hp11 (fun hp14 => ?_) fun hp16 => ?_
    ·refine sR 8 (.code (cd164 [1,0,0,1,1,1,0,1])::td23) ?_
     refine rR (.bool true) Tryz.func164 ?_
     cases Option.some.inj hp14
     exact hR _ _ ⟨rfl,hS0⟩
    refine sR 10 [.code p164_7] ?_
    refine rR (.bool false) Tryz.func164 ?_
    cases Option.some.inj hp16
    exact hR _ _ ⟨rfl,hS0⟩
   refine sR 13 [.code p164_7] ?_
   refine rR (.bool false) Tryz.func164 ?_
   cases Option.some.inj hp18
   exact hR _ _ ⟨rfl,hS0⟩
  refine sI 11 (iR p164_4 2 5::td24) 12 hp20 (fun hp23 => ?_) fun hp30 => ?_
  ·refine sI 3 (.inRegion (opsOf p164_4) [5,6]::td24) 15 hp23 (fun hp26 => ?_) fun hp28 => ?_
   ·refine sR 8 (.code (cd164 [1,0,0,1,1,1,0,1])::td23) ?_
    refine rR (.bool true) Tryz.func164 ?_
    cases Option.some.inj hp26
    exact hR _ _ ⟨rfl,hS0⟩
   refine sR 10 [.code p164_7] ?_
   refine rR (.bool false) Tryz.func164 ?_
   cases Option.some.inj hp28
   exact hR _ _ ⟨rfl,hS0⟩
  refine sR 13 [.code p164_7] ?_
  refine rR (.bool false) Tryz.func164 ?_
  cases Option.some.inj hp30
  exact hR _ _ ⟨rfl,hS0⟩

noncomputable def cd136 (p : List Nat) : Code := sub (bodyOf Tryz.f136) p
abbrev p136_6:=cd136 [1,0,1,1,1,0,0,0]
abbrev p136_9:=cd136 [1,0,1,1,1,0,0,1,0,0]
abbrev p136_11:=cd136 [1,0,1,1,1,0,0,1,0,0,0]
abbrev p136_12:=cd136 [1,0,1,1,1,0,0,1,0,0,1]
abbrev p136_13:=cd136 [1,0,1,1,1,0,0,1,0,0,1,1,0,1,0]
abbrev p136_14:=cd136 [1,0,1,1,1,0,0,1,0,0,1,1,0,1,1]
abbrev p136_15:=cd136 [1,0,1,1,1,0,0,1,0,0,1,1,0,1,1,0,1]
abbrev p136_16:=cd136 [1,0,1,1,1,1,0]
abbrev p136_19:=cd136 [1,0,1,1,1,1,1,1,0,1,1,1,1,0,0,0]
abbrev p136_22:=cd136 [1,0,1,1,1,1,1,1,0,1,1,1,1,1,0,1]
abbrev p136_23:=cd136 [1,0,1,1,1,1,1,1,0,1,1,1,1,1,1]
abbrev p136_24:=cd136 [1,0,1,1,1,1,1,1,0,1,1,1,1,0,0,0,0,0]
abbrev p136_25:=cd136 [1,0,1,1,1,1,1,1,0,1,1,1,1,0,0,0,0,1]
abbrev p136_26:=cd136 [1,0,1,1,1,1,1,1,0,1,1,1,1,0,0,0,1]
abbrev p136_27:=cd136 [1,0,1,1,1,1,1,1,0,1,1,1,1,0,0,0,1,0,0,0,0]
abbrev p136_28:=cd136 [1,0,1,1,1,1,1,1,0,1,1,1,1,0,0,0,1,0,0,0,1]
abbrev p136_31:=cd136 [1,0,1,1,1,1,1,1,0,1,1,1,1,0,0,0,1,0,0,0,1,0,0]
abbrev p136_32:=cd136 [1,0,1,1,1,1,1,1,0,1,1,1,1,0,0,0,1,0,0,0,1,0,1]
abbrev p136_33:=cd136 [1,0,1,1,1,1,1,1,0,1,1,1,1,0,0,0,1,0,0,0,1,0,1,0,0]
abbrev p136_34:=cd136 [1,0,1,1,1,1,1,1,0,1,1,1,1,0,0,0,1,0,0,0,1,0,1,0,1]
abbrev p136_36:=cd136 [1,0,1,1,1,1,1,1,0,1,1,1,1,0,0,0,1,0,0,0,1,0,1,0,1,0,1]
abbrev p136_37:=cd136 [1,0,1,1,1,1,1,1,0,1,1,1,1,0,0,0,1,0,0,1,0,1,0,0]
abbrev p136_39:=cd136 [1,0,1,1,1,1,1,1,0,1,1,1,1,0,0,0,1,0,0,1,1,0,1]
abbrev p136_44:=cd136 [1,0,1,1,1,1,1,1,0,1,1,1,1,0,0,0,1,0,0,1,0,1,0,0,1,0,0,0]
abbrev td25:List Item:=[.inBlock 0]
abbrev td26:List Item:=.code (cd136 [1,0,1,1,1,0,1])::td25
abbrev td27:List Item:=.inBlock 9::td26
abbrev td28:List Item:=.inLoop p136_9::td27
abbrev td29:List Item:=.code p136_9::td28
abbrev td30:List Item:=.inBlock 10::td28
abbrev td31:List Item:=.code (cd136 [1,0,1,1,1,1,1])::td25
abbrev td32:List Item:=.inScope (cd136 [1,0,1,1,1,1,1,1,0])::td25
abbrev td33:List Item:=.code (cd136 [1,0,1,1,1,1,1,1,0,1,1,1,1,1])::td32
abbrev td34:List Item:=.inBlock 1::td33
abbrev td35:List Item:=.inLoop p136_19::td34
abbrev td36:List Item:=.code p136_19::td35
abbrev td37:List Item:=.inBlock 2::td35
abbrev td38:List Item:=.inScope (cd136 [1,0,1,1,1,1,1,1,0,1,1,1,1,0,0,0,1,0,0])::td37
abbrev td39:List Item:=.code (cd136 [1,0,1,1,1,1,1,1,0,1,1,1,1,0,0,0,1,0,0,1])::td38
abbrev td40:List Item:=.code (cd136 [1,0,1,1,1,1,1,1,0,1,1,1,1,0,0,0,1,0,0,0,1,0,1,1])::td39
abbrev td41:List Item:=.code (cd136 [1,0,1,1,1,1,1,1,0,1,1,1,1,0,0,0,1,0,0,1,1])::td38
abbrev td42:List Item:=.inBlock 3::td41
abbrev td43:List Item:=.inLoop p136_37::td42
abbrev td44:List Item:=.code p136_37::td43
abbrev td45:List Item:=.code (cd136 [1,0,1,1,1,1,1,1,0,1,1,1,1,0,0,0,1,0,0,1,1,1])::td38
abbrev td46:List Item:=.code p136_39::td45
abbrev td47:List Item:=.code (cd136 [1,0,1,1,1,1,1,1,0,1,1,1,1,0,0,0,1,0,0,1,0,1,0,0,1])::td43
abbrev td48:List Item:=.code (cd136 [1,0,1,1,1,1,1,1,0,1,1,1,1,0,0,0,1,0,0,1,0,1,0,0,0,1])::td47
abbrev td49:List Item:=.inRegion (opsOf (cd136 [1,0,1,1,1,1,1,1,0,1,1,1,1,0,0,0,1,0,0,1,0,1,0,0,0,0])) []::td48
abbrev td50:List Item:=.code (cd136 [1,0,1,1,1,1,1,1,0,1,1,1,1,0,0,0,1,0,0,1,0,1,0,0,1,1])::td43
abbrev td51:List Item:=.inBlock 4::td50
abbrev td52:List Item:=.code (cd136 [1,0,1,1,1,1,1,1,0,1,1,1,1,0,0,0,1,0,0,1,0,1,0,0,1,0,0,1])::td51
abbrev td53:List Item:=.code p136_44::td52
abbrev td54:List Item:=.code (cd136 [1,0,1,1,1,1,1,1,0,1,1,1,1,0,0,0,1,0,0,1,0,1,0,0,1,0,0,1,0])::td51
def strings_IndexRune.l0 (a0 : ByteArray) (n31 : Nat) : Option (Sum Unit Int) :=
  (if (decide (n31 < a0.size)) = true then (if ((rdc a0 n31) == 65533) = true then some (.inr (((n31 : Nat) : Int))) else (strings_IndexRune.l0 a0 (n31 + rdw a0 n31))) else some (.inl ()))
 partial_fixpoint
def strings_IndexRune.l2 (a0 : ByteArray) (a1 t75 : Int) (t102 t121 : Int) : Option Unit :=
  (if (decide (t121 < ((Utf8.encode a1).size : Int))) = true then (if 0 ≤ (IntKind.i64.wrap ((IntKind.i64.wrap (t75 + (IntKind.i64.wrap (t102 + 1)))) - t121)) ∧ (IntKind.i64.wrap ((IntKind.i64.wrap (t75 + (IntKind.i64.wrap (t102 + 1)))) - t121)) < (a0.size : Int) then (if 0 ≤ (IntKind.i64.wrap ((IntKind.i64.wrap (((Utf8.encode a1).size : Int) - 1)) - t121)) ∧ (IntKind.i64.wrap ((IntKind.i64.wrap (((Utf8.encode a1).size : Int) - 1)) - t121)) < ((Utf8.encode a1).size : Int) then (if ((byt a0 (IntKind.i64.wrap ((IntKind.i64.wrap (t75 + (IntKind.i64.wrap (t102 + 1)))) - t121))) != (byt (Utf8.encode a1) (IntKind.i64.wrap ((IntKind.i64.wrap (((Utf8.encode a1).size : Int) - 1)) - t121)))) = true then none else (strings_IndexRune.l2 a0 a1 t75 t102 (IntKind.i64.wrap (t121 + 1)))) else none) else none) else some (()))
 partial_fixpoint
def strings_IndexRune.l3 (a0 : ByteArray) (a1 t75 t159 : Int) : Option Unit :=
  (if (decide (t159 < ((Utf8.encode a1).size : Int))) = true then (if 0 ≤ (IntKind.i64.wrap (t75 - t159)) ∧ (IntKind.i64.wrap (t75 - t159)) < (a0.size : Int) then (if 0 ≤ (IntKind.i64.wrap ((IntKind.i64.wrap (((Utf8.encode a1).size : Int) - 1)) - t159)) ∧ (IntKind.i64.wrap ((IntKind.i64.wrap (((Utf8.encode a1).size : Int) - 1)) - t159)) < ((Utf8.encode a1).size : Int) then (if ((byt a0 (IntKind.i64.wrap (t75 - t159))) != (byt (Utf8.encode a1) (IntKind.i64.wrap ((IntKind.i64.wrap (((Utf8.encode a1).size : Int) - 1)) - t159)))) = true then none else (strings_IndexRune.l3 a0 a1 t75 (IntKind.i64.wrap (t159 + 1)))) else none) else none) else some (()))
 partial_fixpoint
def strings_IndexRune.l1 (a0 : ByteArray) (a1 t75 : Int) : Option (Sum Unit Int) :=
  (if (decide (t75 < (a0.size : Int))) = true then (if 0 ≤ t75 ∧ t75 < (a0.size : Int) then (if 0 ≤ (IntKind.i64.wrap (((Utf8.encode a1).size : Int) - 1)) ∧ (IntKind.i64.wrap (((Utf8.encode a1).size : Int) - 1)) < ((Utf8.encode a1).size : Int) then (if ((byt a0 t75) != (byt (Utf8.encode a1) (IntKind.i64.wrap (((Utf8.encode a1).size : Int) - 1)))) = true then (if 0 ≤ (IntKind.i64.wrap (t75 + 1)) ∧ (IntKind.i64.wrap (t75 + 1)) ≤ (a0.size : Int) then (if 0 ≤ (IntKind.i64.wrap (((Utf8.encode a1).size : Int) - 1)) ∧ (IntKind.i64.wrap (((Utf8.encode a1).size : Int) - 1)) < ((Utf8.encode a1).size : Int) then (strings_IndexByte.f (a0.extract (IntKind.i64.wrap (t75 + 1)).toNat a0.size) (byt (Utf8.encode a1) (IntKind.i64.wrap (((Utf8.encode a1).size : Int) - 1))) >>= (fun t102 => (if (decide (t102 < 0)) = true then some (.inr ((-1))) else (strings_IndexRune.l2 a0 a1 t75 t102 1 >>= (fun _ => some (.inr ((IntKind.i64.wrap ((IntKind.i64.wrap (t75 + (IntKind.i64.wrap (t102 + 1)))) - (IntKind.i64.wrap (((Utf8.encode a1).size : Int) - 1))))))))))) else none) else none) else (strings_IndexRune.l3 a0 a1 t75 1 >>= (fun _ => some (.inr ((IntKind.i64.wrap (t75 - (IntKind.i64.wrap (((Utf8.encode a1).size : Int) - 1))))))))) else none) else none) else some (.inl ()))
def strings_IndexRune.l4 (a0 : ByteArray) (n204 : Nat) : Option (Sum Unit Int) :=
  (if (decide (n204 < a0.size)) = true then (if ((rdc a0 n204) == 65533) = true then some (.inr (((n204 : Nat) : Int))) else (strings_IndexRune.l4 a0 (n204 + rdw a0 n204))) else some (.inl ()))
 partial_fixpoint
def strings_IndexRune.l6 (a0 : ByteArray) (a1 t248 : Int) (t275 t294 : Int) : Option Unit :=
  (if (decide (t294 < ((Utf8.encode a1).size : Int))) = true then (if 0 ≤ (IntKind.i64.wrap ((IntKind.i64.wrap (t248 + (IntKind.i64.wrap (t275 + 1)))) - t294)) ∧ (IntKind.i64.wrap ((IntKind.i64.wrap (t248 + (IntKind.i64.wrap (t275 + 1)))) - t294)) < (a0.size : Int) then (if 0 ≤ (IntKind.i64.wrap ((IntKind.i64.wrap (((Utf8.encode a1).size : Int) - 1)) - t294)) ∧ (IntKind.i64.wrap ((IntKind.i64.wrap (((Utf8.encode a1).size : Int) - 1)) - t294)) < ((Utf8.encode a1).size : Int) then (if ((byt a0 (IntKind.i64.wrap ((IntKind.i64.wrap (t248 + (IntKind.i64.wrap (t275 + 1)))) - t294))) != (byt (Utf8.encode a1) (IntKind.i64.wrap ((IntKind.i64.wrap (((Utf8.encode a1).size : Int) - 1)) - t294)))) = true then none else (strings_IndexRune.l6 a0 a1 t248 t275 (IntKind.i64.wrap (t294 + 1)))) else none) else none) else some (()))
 partial_fixpoint
def strings_IndexRune.l7 (a0 : ByteArray) (a1 t248 t332 : Int) : Option Unit :=
  (if (decide (t332 < ((Utf8.encode a1).size : Int))) = true then (if 0 ≤ (IntKind.i64.wrap (t248 - t332)) ∧ (IntKind.i64.wrap (t248 - t332)) < (a0.size : Int) then (if 0 ≤ (IntKind.i64.wrap ((IntKind.i64.wrap (((Utf8.encode a1).size : Int) - 1)) - t332)) ∧ (IntKind.i64.wrap ((IntKind.i64.wrap (((Utf8.encode a1).size : Int) - 1)) - t332)) < ((Utf8.encode a1).size : Int) then (if ((byt a0 (IntKind.i64.wrap (t248 - t332))) != (byt (Utf8.encode a1) (IntKind.i64.wrap ((IntKind.i64.wrap (((Utf8.encode a1).size : Int) - 1)) - t332)))) = true then none else (strings_IndexRune.l7 a0 a1 t248 (IntKind.i64.wrap (t332 + 1)))) else none) else none) else some (()))
 partial_fixpoint
def strings_IndexRune.l5 (a0 : ByteArray) (a1 t248 : Int) : Option (Sum Unit Int) :=
  (if (decide (t248 < (a0.size : Int))) = true then (if 0 ≤ t248 ∧ t248 < (a0.size : Int) then (if 0 ≤ (IntKind.i64.wrap (((Utf8.encode a1).size : Int) - 1)) ∧ (IntKind.i64.wrap (((Utf8.encode a1).size : Int) - 1)) < ((Utf8.encode a1).size : Int) then (if ((byt a0 t248) != (byt (Utf8.encode a1) (IntKind.i64.wrap (((Utf8.encode a1).size : Int) - 1)))) = true then (if 0 ≤ (IntKind.i64.wrap (t248 + 1)) ∧ (IntKind.i64.wrap (t248 + 1)) ≤ (a0.size : Int) then (if 0 ≤ (IntKind.i64.wrap (((Utf8.encode a1).size : Int) - 1)) ∧ (IntKind.i64.wrap (((Utf8.encode a1).size : Int) - 1)) < ((Utf8.encode a1).size : Int) then (strings_IndexByte.f (a0.extract (IntKind.i64.wrap (t248 + 1)).toNat a0.size) (byt (Utf8.encode a1) (IntKind.i64.wrap (((Utf8.encode a1).size : Int) - 1))) >>= (fun t275 => (if (decide (t275 < 0)) = true then some (.inr ((-1))) else (strings_IndexRune.l6 a0 a1 t248 t275 1 >>= (fun _ => some (.inr ((IntKind.i64.wrap ((IntKind.i64.wrap (t248 + (IntKind.i64.wrap (t275 + 1)))) - (IntKind.i64.wrap (((Utf8.encode a1).size : Int) - 1))))))))))) else none) else none) else (strings_IndexRune.l7 a0 a1 t248 1 >>= (fun _ => some (.inr ((IntKind.i64.wrap (t248 - (IntKind.i64.wrap (((Utf8.encode a1).size : Int) - 1))))))))) else none) else none) else some (.inl ()))
def strings_IndexRune.f (a0 : ByteArray) (a1 : Int) : Option Int :=
  (if (decide (0 ≤ a1)) = true then (if (decide (a1 < 128)) = true then (strings_IndexByte.f a0 (IntKind.u8.wrap a1) >>= (fun t7 => some (t7))) else (if (a1 == 65533) = true then (strings_IndexRune.l0 a0 0 >>= (fun | .inl () => some ((-1)) | .inr e => some e)) else (utf8_ValidRune.f a1 >>= (fun t55 => (if (!t55) = true then some ((-1)) else (strings_IndexRune.l1 a0 a1 (IntKind.i64.wrap (((Utf8.encode a1).size : Int) - 1)) >>= (fun | .inl () => some ((-1)) | .inr e => some e))))))) else (if (a1 == 65533) = true then (strings_IndexRune.l4 a0 0 >>= (fun | .inl () => some ((-1)) | .inr e => some e)) else (utf8_ValidRune.f a1 >>= (fun t228 => (if (!t228) = true then some ((-1)) else (strings_IndexRune.l5 a0 a1 (IntKind.i64.wrap (((Utf8.encode a1).size : Int) - 1)) >>= (fun | .inl () => some ((-1)) | .inr e => some e)))))))
theorem strings_IndexRune.ok {a0 : ByteArray} {a1 q0 : Int} (hp0 : strings_IndexRune.f a0 a1 = some q0) (hS0 : St w0 Z (fs) w) :
    Calls Tryz.prog 136 #[.string a0,.int .i32 a1] w (fun e w' => e = .returned (.int .i64 q0) ∧ St w0 Z (fs) w'):=by
  refine calls_abs ?_; intro R hR
  unfold strings_IndexRune.f at hp0
  refine calls_of_runs (fn:=Tryz.f136) (c:=cd136 []) Tryz.func136 (by kernel_rfl) (al:=[.string a0,.int .i32 a1]) rfl (n:=185) rfl ?_
  refine sS 9 (iR (cd136 [1,0,0]) 2 5::.code (cd136 [1,0,1])::td25) 162 (decide (0 ≤ a1)) (fun h1 => ?_) fun h2 => ?_
  ·have hp3:=ite_t hp0 h1
   refine sI 3 (.inRegion (opsOf (cd136 [1,0,0])) [5,6]::.code (cd136 [1,0,1])::td25) 165 hp3 (fun hp6 => ?_) fun hp13 => ?_
   ·refine sR 9 (.inRegion (opsOf (cd136 [1,0,1,0,0])) [3,4]::.code (cd136 [1,0,1,0,1])::td25) ?_
    obtain ⟨t7,hr8,hp9⟩:=bind_some' hp6
    refine rC (strings_IndexByte.ok a0 (IntKind.u8.wrap a1) hS0 hr8) ?_
    rintro _ w10 ⟨rfl,hS11⟩
    refine ⟨_,rfl,?_⟩
    refine sR 2 (.code (cd136 [1,0,1,0,1])::td25) ?_
    refine rR (.int .i64 t7) Tryz.func136 ?_
    cases Option.some.inj hp9
    exact hR _ _ ⟨rfl,hS11⟩
   refine sI 8 (.inRegion (opsOf (cd136 [1,0,1,1,0])) [2]::.code (cd136 [1,0,1,1,1])::td25) 173 hp13 (fun hp16 => ?_) fun hp54 => ?_
   ·refine sR 7 (.inRegion (opsOf p136_6) [1]::.code (cd136 [1,0,1,1,1,0,0,1])::td26) ?_
    refine r_range (c:=p136_6) (i:=1) (d:=(some 175)) (ty:=0) (t:=9) (x:=(.tmp 174)) (s:=a0) hS0 (by kernel_rfl) (by kernel_rfl) (by kernel_rfl) (by kernel_rfl) ?_
    intro b17 w18 hS19
    refine sR 3 td29 ?_
    obtain ⟨v21,hv22,hp23⟩:=bind_some' hp16
    have hq26 : ∀ x,Sum.inr x = v21 → x = q0:=by intro x hx; subst hx; simpa using hp23
    have J27 : ∀ (he29 : Sum.inl () = v21) (l28 : List Value) (w24 : World) (hS25 : St w0 Z (fs) w24),Runs Tryz.prog (fx 136) td26 (fill (mk 187 []) l28) w24 R:=by
     intro he29 l28 w24 hS25
     subst he29
     try dsimp only at hp23
     refine sR 4 (.code (cd136 [1,0,1,1,1,0,1,1])::td25) ?_
     refine rR (.int .i64 (-1)) Tryz.func136 ?_
     cases Option.some.inj hp23
     exact hR _ _ ⟨rfl,hS25⟩
    have L40 : ∀ (n31 : Nat) (e35 : Sum Unit Int),strings_IndexRune.l0 a0 n31 = some e35 → e35 = v21 → ∀ (l34 : List Value) (w32 : World) (hS33 : St w0 Z (xit b17 a0 n31::fs) w32),Runs Tryz.prog (fx 136) td29 (fill (mk 187 [(175,.pointer (some ⟨b17,0,none⟩))]) l34) w32 R:=by
     refine strings_IndexRune.l0.partial_correctness a0 (fun n31 e35 => e35 = v21 → ∀ (l34 : List Value) (w32 : World) (hS33 : St w0 Z (xit b17 a0 n31::fs) w32),Runs Tryz.prog (fx 136) td29 (fill (mk 187 [(175,.pointer (some ⟨b17,0,none⟩))]) l34) w32 R) ?_
     intro rec39 ih38 n31 e35 hb37 he36 l34 w32 hS33
     have hq41 : ∀ x,Sum.inr x = e35 → x = q0:=fun x hx => hq26 x (hx.trans he36)
     refine sR 2 (.inRegion (opsOf p136_11) [0,1]::.code p136_12::td28) ?_
     rcases Bool.eq_false_or_eq_true (decide (n31 < a0.size)) with h42 | h42
     ·have hp43:=ite_t hb37 h42
      refine r_next1 (c:=p136_11) (i:=0) (d:=(some 176)) (ty:=0) (x:=(.tmp 175)) (s:=a0) (b:=b17) (pos:=n31) hS33 (by kernel_rfl) (by kernel_rfl) (by kernel_rfl) h42 ?_
      intro w44 hS45
      refine sI 17 (.inRegion (opsOf p136_13) []::.code p136_14::td30) 181 hp43 (fun hp48 => ?_) fun hp51 => ?_
      ·refine sR 7 (.code p136_15::td30) ?_
       refine r_isret (c:=p136_15) (by kernel_rfl) ?_
       have hS49:=hS45.drop
       refine rR (.int .i64 ((n31 : Nat) : Int)) Tryz.func136 ?_
       cases hq41 _ (Option.some.inj hp48)
       exact hR _ _ ⟨rfl,hS49⟩
      refine sR 4 td28 ?_
      refine sR 1 td29 ?_
      exact rF _ (ih38 (n31 + rdw a0 n31) _ hp51 he36 _ _ hS45)
     have hp52:=ite_f hb37 h42
     refine r_next0 (c:=p136_11) (i:=0) (d:=(some 176)) (ty:=0) (x:=(.tmp 175)) (s:=a0) (b:=b17) (pos:=n31) 0 hS33 rfl (by kernel_rfl) (by kernel_rfl) (by kernel_rfl) h42 ?_
     refine sR 5 td26 ?_
     have hS53:=hS33.drop
     exact rF _ (J27 ((Option.some.inj hp52).trans he36) _ _ hS53)
    exact rF _ (L40 0 _ hv22 rfl _ _ hS19)
   refine sR 6 (.inRegion (opsOf p136_16) [1,2,3]::td31) ?_
   obtain ⟨t55,hr56,hp57⟩:=bind_some' hp54
   refine rC (utf8_ValidRune.ok hr56 hS0) ?_
   rintro _ w58 ⟨rfl,hS59⟩
   refine ⟨_,rfl,?_⟩
   refine sI 1 (.inRegion (opsOf p136_16) [3]::td31) 186 hp57 (fun hp62 => ?_) fun hp64 => ?_
   ·refine sR 7 (.code (cd136 [1,0,1,1,1,1,1,0,1])::td25) ?_
    refine rR (.int .i64 (-1)) Tryz.func136 ?_
    cases Option.some.inj hp62
    exact hR _ _ ⟨rfl,hS59⟩
   refine sR 29 td36 ?_
   obtain ⟨v65,hv66,hp67⟩:=bind_some' hp64
   have hq70 : ∀ x,Sum.inr x = v65 → x = q0:=by intro x hx; subst hx; simpa using hp67
   have J71 : ∀ (he73 : Sum.inl () = v65) (l72 : List Value) (w68 : World) (hS69 : St w0 Z (fs) w68),Runs Tryz.prog (fx 136) td33 (fill (mk 187 []) l72) w68 R:=by
    intro he73 l72 w68 hS69
    subst he73
    try dsimp only at hp67
    refine sR 5 (.code p136_22::.code p136_23::td32) ?_
    refine r_isret (c:=p136_22) (by kernel_rfl) ?_
    refine rR (.int .i64 (-1)) Tryz.func136 ?_
    cases Option.some.inj hp67
    exact hR _ _ ⟨rfl,hS69⟩
   have L84 : ∀ (t75 : Int) (e79 : Sum Unit Int),strings_IndexRune.l1 a0 a1 t75 = some e79 → e79 = v65 → ∀ (l78 : List Value) (w76 : World) (hS77 : St w0 Z (fs) w76),Runs Tryz.prog (fx 136) td36 (fill (mk 187 [(0,.string a0),(7,.string (Utf8.encode a1)),(8,.int .i64 (IntKind.i64.wrap (((Utf8.encode a1).size : Int) - 1))),(9,.int .i64 t75)]) l78) w76 R:=by
    intro t75 e79 hb81 he80 l78 w76 hS77
    unfold strings_IndexRune.l1 at hb81
    have hq85 : ∀ x,Sum.inr x = e79 → x = q0:=fun x hx => hq70 x (hx.trans he80)
    refine sI 7 (.inRegion (opsOf p136_24) []::.code p136_25::.code p136_26::td35) 26 hb81 (fun hp88 => ?_) fun hp185 => ?_
    ·refine sR 7 (.code p136_27::.code p136_28::td39) ?_
     refine r_quiet hS77 (c:=p136_27) (id:=6) (by kernel_rfl) (by kernel_rfl) (by kernel_rfl) (is:=[0,1,2,3,4,5,6]) (by kernel_rfl) ?_
     refine qR 2 (rg 2 5) ?_
     obtain ⟨g89,hp90⟩:=ite_some hp88
     refine qV (.index 9 (.tmp 27) (.tmp 28)) (.int .u8 (byt a0 t75)) (fun w hC o ho _ => x_indexStr (kk:=.i64) (by kernel_rfl) (by kernel_rfl) (by kernel_rfl) g89.1 g89.2 ho) ?_
     refine qR 2 [5,6] ?_
     obtain ⟨g91,hp92⟩:=ite_some hp90
     refine qV (.index 9 (.tmp 30) (.tmp 31)) (.int .u8 (byt (Utf8.encode a1) (IntKind.i64.wrap (((Utf8.encode a1).size : Int) - 1)))) (fun w hC o ho _ => x_indexStr (kk:=.i64) (by kernel_rfl) (by kernel_rfl) (by kernel_rfl) g91.1 g91.2 ho) ?_
     refine qI 1 [] 33 hp92 (fun hp95 => ?_) fun hp147 => ?_
     ·refine Qs.nil ?_
      intro w96 hS97
      refine sR 2 (.code p136_31::.code p136_32::td39) ?_
      refine r_quiet hS97 (c:=p136_31) (id:=7) (by kernel_rfl) (by kernel_rfl) (by kernel_rfl) (is:=[0,1,2,3,4,5,6,7,8]) (by kernel_rfl) ?_
      refine qR 3 (rg 3 6) ?_
      obtain ⟨g98,hp99⟩:=ite_some hp95
      refine qV (.slice 9 (.tmp 34) (some (.tmp 36)) none none) (.string (a0.extract (IntKind.i64.wrap (t75 + 1)).toNat a0.size)) (fun w hC o ho _ => x_cutStr_sn (k:=.i64) (by kernel_rfl) (by kernel_rfl) (by kernel_rfl) g98 ho) ?_
      refine qR 2 [6,7,8] ?_
      obtain ⟨g100,hp101⟩:=ite_some hp99
      refine qV (.index 9 (.tmp 38) (.tmp 39)) (.int .u8 (byt (Utf8.encode a1) (IntKind.i64.wrap (((Utf8.encode a1).size : Int) - 1)))) (fun w hC o ho _ => x_indexStr (kk:=.i64) (by kernel_rfl) (by kernel_rfl) (by kernel_rfl) g100.1 g100.2 ho) ?_
      obtain ⟨t102,hr103,hp104⟩:=bind_some' hp101
      refine q_call1 (c:=p136_31) (i:=7) (d:=(some 41)) (v:=.int .i64 t102) (g:=131) (args:=#[.string (a0.extract (IntKind.i64.wrap (t75 + 1)).toNat a0.size),.int .u8 (byt (Utf8.encode a1) (IntKind.i64.wrap (((Utf8.encode a1).size : Int) - 1)))]) (by kernel_rfl) (by kernel_rfl) (by kernel_rfl) (by kernel_rfl) (fun w hC => by
       refine (strings_IndexByte.ok (a0.extract (IntKind.i64.wrap (t75 + 1)).toNat a0.size) (byt (Utf8.encode a1) (IntKind.i64.wrap (((Utf8.encode a1).size : Int) - 1))) hC hr103).mono ?_
       rintro e w2 ⟨rfl,h2⟩
       exact ⟨rfl,h2⟩) ?_
      refine qR 1 [] ?_
      refine Qs.nil ?_
      intro w105 hS106
      refine sI 5 (.inRegion (opsOf p136_33) []::.code p136_34::td40) 43 hp104 (fun hp109 => ?_) fun hp111 => ?_
      ·refine sR 6 (.code p136_36::td40) ?_
       refine r_isret (c:=p136_36) (by kernel_rfl) ?_
       refine rR (.int .i64 (-1)) Tryz.func136 ?_
       cases hq85 _ (Option.some.inj hp109)
       exact hR _ _ ⟨rfl,hS106⟩
      refine sR 17 td44 ?_
      obtain ⟨v112,hv113,hp114⟩:=bind_some' hp111
      have J117 : ∀ (he119 : () = v112) (l118 : List Value) (w115 : World) (hS116 : St w0 Z (fs) w115),Runs Tryz.prog (fx 136) td41 (fill (mk 187 [(8,.int .i64 (IntKind.i64.wrap (((Utf8.encode a1).size : Int) - 1))),(9,.int .i64 (IntKind.i64.wrap (t75 + (IntKind.i64.wrap (t102 + 1)))))]) l118) w115 R:=by
       intro he119 l118 w115 hS116
       subst he119
       try dsimp only at hp114
       refine sR 8 td46 ?_
       refine r_isret (c:=p136_39) (by kernel_rfl) ?_
       refine rR (.int .i64 (IntKind.i64.wrap ((IntKind.i64.wrap (t75 + (IntKind.i64.wrap (t102 + 1)))) - (IntKind.i64.wrap (((Utf8.encode a1).size : Int) - 1))))) Tryz.func136 ?_
       cases hq85 _ (Option.some.inj hp114)
       exact hR _ _ ⟨rfl,hS116⟩
      have L130 : ∀ (t121 : Int) (e125 : Unit),strings_IndexRune.l2 a0 a1 t75 t102 t121 = some e125 → e125 = v112 → ∀ (l124 : List Value) (w122 : World) (hS123 : St w0 Z (fs) w122),Runs Tryz.prog (fx 136) td44 (fill (mk 187 [(0,.string a0),(7,.string (Utf8.encode a1)),(8,.int .i64 (IntKind.i64.wrap (((Utf8.encode a1).size : Int) - 1))),(9,.int .i64 (IntKind.i64.wrap (t75 + (IntKind.i64.wrap (t102 + 1))))),(12,.int .i64 t121)]) l124) w122 R:=by
       refine strings_IndexRune.l2.partial_correctness a0 a1 t75 t102 (fun t121 e125 => e125 = v112 → ∀ (l124 : List Value) (w122 : World) (hS123 : St w0 Z (fs) w122),Runs Tryz.prog (fx 136) td44 (fill (mk 187 [(0,.string a0),(7,.string (Utf8.encode a1)),(8,.int .i64 (IntKind.i64.wrap (((Utf8.encode a1).size : Int) - 1))),(9,.int .i64 (IntKind.i64.wrap (t75 + (IntKind.i64.wrap (t102 + 1))))),(12,.int .i64 t121)]) l124) w122 R) ?_
       intro rec129 ih128 t121 e125 hb127 he126 l124 w122 hS123
       refine sI 7 td49 51 hb127 (fun hp133 => ?_) fun hp146 => ?_
       ·refine sR 6 td53 ?_
        refine r_quiet hS123 (c:=p136_44) (id:=14) (by kernel_rfl) (by kernel_rfl) (by kernel_rfl) (is:=[0,1,2,3,4,5,6,7,8,9,10]) (by kernel_rfl) ?_
        refine qR 4 (rg 4 7) ?_
        obtain ⟨g134,hp135⟩:=ite_some hp133
        refine qV (.index 9 (.tmp 54) (.tmp 57)) (.int .u8 (byt a0 (IntKind.i64.wrap ((IntKind.i64.wrap (t75 + (IntKind.i64.wrap (t102 + 1)))) - t121)))) (fun w hC o ho _ => x_indexStr (kk:=.i64) (by kernel_rfl) (by kernel_rfl) (by kernel_rfl) g134.1 g134.2 ho) ?_
        refine qR 4 [9,10] ?_
        obtain ⟨g136,hp137⟩:=ite_some hp135
        refine qV (.index 9 (.tmp 59) (.tmp 62)) (.int .u8 (byt (Utf8.encode a1) (IntKind.i64.wrap ((IntKind.i64.wrap (((Utf8.encode a1).size : Int) - 1)) - t121)))) (fun w hC o ho _ => x_indexStr (kk:=.i64) (by kernel_rfl) (by kernel_rfl) (by kernel_rfl) g136.1 g136.2 ho) ?_
        refine qI 1 [] 64 hp137 (fun hp140 => ?_) fun hp143 => ?_
        ·refine Qs.nil ?_
         intro w141 hS142
         refine sR 1 td54 ?_
         cases hp140
        refine Qs.nil ?_
        intro w144 hS145
        refine sR 8 td43 ?_
        refine sR 1 td44 ?_
        exact rF _ (ih128 (IntKind.i64.wrap (t121 + 1)) _ hp143 he126 _ _ hS145)
       refine sR 3 td41 ?_
       exact rF _ (J117 ((Option.some.inj hp146).trans he126) _ _ hS123)
      exact rF _ (L130 1 _ hv113 rfl _ _ hS106)
     refine Qs.nil ?_
     intro w148 hS149
     refine sR 9 td44 ?_
     obtain ⟨v150,hv151,hp152⟩:=bind_some' hp147
     have J155 : ∀ (he157 : () = v150) (l156 : List Value) (w153 : World) (hS154 : St w0 Z (fs) w153),Runs Tryz.prog (fx 136) td41 (fill (mk 187 [(8,.int .i64 (IntKind.i64.wrap (((Utf8.encode a1).size : Int) - 1))),(9,.int .i64 t75)]) l156) w153 R:=by
      intro he157 l156 w153 hS154
      subst he157
      try dsimp only at hp152
      refine sR 8 td46 ?_
      refine r_isret (c:=p136_39) (by kernel_rfl) ?_
      refine rR (.int .i64 (IntKind.i64.wrap (t75 - (IntKind.i64.wrap (((Utf8.encode a1).size : Int) - 1))))) Tryz.func136 ?_
      cases hq85 _ (Option.some.inj hp152)
      exact hR _ _ ⟨rfl,hS154⟩
     have L168 : ∀ (t159 : Int) (e163 : Unit),strings_IndexRune.l3 a0 a1 t75 t159 = some e163 → e163 = v150 → ∀ (l162 : List Value) (w160 : World) (hS161 : St w0 Z (fs) w160),Runs Tryz.prog (fx 136) td44 (fill (mk 187 [(0,.string a0),(7,.string (Utf8.encode a1)),(8,.int .i64 (IntKind.i64.wrap (((Utf8.encode a1).size : Int) - 1))),(9,.int .i64 t75),(12,.int .i64 t159)]) l162) w160 R:=by
      refine strings_IndexRune.l3.partial_correctness a0 a1 t75 (fun t159 e163 => e163 = v150 → ∀ (l162 : List Value) (w160 : World) (hS161 : St w0 Z (fs) w160),Runs Tryz.prog (fx 136) td44 (fill (mk 187 [(0,.string a0),(7,.string (Utf8.encode a1)),(8,.int .i64 (IntKind.i64.wrap (((Utf8.encode a1).size : Int) - 1))),(9,.int .i64 t75),(12,.int .i64 t159)]) l162) w160 R) ?_
      intro rec167 ih166 t159 e163 hb165 he164 l162 w160 hS161
      refine sI 7 td49 51 hb165 (fun hp171 => ?_) fun hp184 => ?_
      ·refine sR 6 td53 ?_
       refine r_quiet hS161 (c:=p136_44) (id:=14) (by kernel_rfl) (by kernel_rfl) (by kernel_rfl) (is:=[0,1,2,3,4,5,6,7,8,9,10]) (by kernel_rfl) ?_
       refine qR 4 (rg 4 7) ?_
       obtain ⟨g172,hp173⟩:=ite_some hp171
       refine qV (.index 9 (.tmp 54) (.tmp 57)) (.int .u8 (byt a0 (IntKind.i64.wrap (t75 - t159)))) (fun w hC o ho _ => x_indexStr (kk:=.i64) (by kernel_rfl) (by kernel_rfl) (by kernel_rfl) g172.1 g172.2 ho) ?_
       refine qR 4 [9,10] ?_
       obtain ⟨g174,hp175⟩:=ite_some hp173
       refine qV (.index 9 (.tmp 59) (.tmp 62)) (.int .u8 (byt (Utf8.encode a1) (IntKind.i64.wrap ((IntKind.i64.wrap (((Utf8.encode a1).size : Int) - 1)) - t159)))) (fun w hC o ho _ => x_indexStr (kk:=.i64) (by kernel_rfl) (by kernel_rfl) (by kernel_rfl) g174.1 g174.2 ho) ?_
       refine qI 1 [] 64 hp175 (fun hp178 => ?_) fun hp181 => ?_
       ·refine Qs.nil ?_
        intro w179 hS180
        refine sR 1 td54 ?_
        cases hp178
       refine Qs.nil ?_
       intro w182 hS183
       refine sR 8 td43 ?_
       refine sR 1 td44 ?_
       exact rF _ (ih166 (IntKind.i64.wrap (t159 + 1)) _ hp181 he164 _ _ hS183)
      refine sR 3 td41 ?_
      exact rF _ (J155 ((Option.some.inj hp184).trans he164) _ _ hS161)
     exact rF _ (L168 1 _ hv151 rfl _ _ hS149)
    refine sR 3 td33 ?_
    exact rF _ (J71 ((Option.some.inj hp185).trans he80) _ _ hS77)
   exact rF _ (L84 (IntKind.i64.wrap (((Utf8.encode a1).size : Int) - 1)) _ hv66 rfl _ _ hS59)
  have hp186:=ite_f hp0 h2
  refine sI 11 (.inRegion (opsOf (cd136 [1,0,1,1,0])) [2]::.code (cd136 [1,0,1,1,1])::td25) 173 hp186 (fun hp189 => ?_) fun hp227 => ?_
  ·refine sR 7 (.inRegion (opsOf p136_6) [1]::.code (cd136 [1,0,1,1,1,0,0,1])::td26) ?_
   refine r_range (c:=p136_6) (i:=1) (d:=(some 175)) (ty:=0) (t:=9) (x:=(.tmp 174)) (s:=a0) hS0 (by kernel_rfl) (by kernel_rfl) (by kernel_rfl) (by kernel_rfl) ?_
   intro b190 w191 hS192
   refine sR 3 td29 ?_
   obtain ⟨v194,hv195,hp196⟩:=bind_some' hp189
   have hq199 : ∀ x,Sum.inr x = v194 → x = q0:=by intro x hx; subst hx; simpa using hp196
   have J200 : ∀ (he202 : Sum.inl () = v194) (l201 : List Value) (w197 : World) (hS198 : St w0 Z (fs) w197),Runs Tryz.prog (fx 136) td26 (fill (mk 187 []) l201) w197 R:=by
    intro he202 l201 w197 hS198
    subst he202
    try dsimp only at hp196
    refine sR 4 (.code (cd136 [1,0,1,1,1,0,1,1])::td25) ?_
    refine rR (.int .i64 (-1)) Tryz.func136 ?_
    cases Option.some.inj hp196
    exact hR _ _ ⟨rfl,hS198⟩
   have L213 : ∀ (n204 : Nat) (e208 : Sum Unit Int),strings_IndexRune.l4 a0 n204 = some e208 → e208 = v194 → ∀ (l207 : List Value) (w205 : World) (hS206 : St w0 Z (xit b190 a0 n204::fs) w205),Runs Tryz.prog (fx 136) td29 (fill (mk 187 [(175,.pointer (some ⟨b190,0,none⟩))]) l207) w205 R:=by
    refine strings_IndexRune.l4.partial_correctness a0 (fun n204 e208 => e208 = v194 → ∀ (l207 : List Value) (w205 : World) (hS206 : St w0 Z (xit b190 a0 n204::fs) w205),Runs Tryz.prog (fx 136) td29 (fill (mk 187 [(175,.pointer (some ⟨b190,0,none⟩))]) l207) w205 R) ?_
    intro rec212 ih211 n204 e208 hb210 he209 l207 w205 hS206
    have hq214 : ∀ x,Sum.inr x = e208 → x = q0:=fun x hx => hq199 x (hx.trans he209)
    refine sR 2 (.inRegion (opsOf p136_11) [0,1]::.code p136_12::td28) ?_
    rcases Bool.eq_false_or_eq_true (decide (n204 < a0.size)) with h215 | h215
    ·have hp216:=ite_t hb210 h215
     refine r_next1 (c:=p136_11) (i:=0) (d:=(some 176)) (ty:=0) (x:=(.tmp 175)) (s:=a0) (b:=b190) (pos:=n204) hS206 (by kernel_rfl) (by kernel_rfl) (by kernel_rfl) h215 ?_
     intro w217 hS218
     refine sI 17 (.inRegion (opsOf p136_13) []::.code p136_14::td30) 181 hp216 (fun hp221 => ?_) fun hp224 => ?_
     ·refine sR 7 (.code p136_15::td30) ?_
      refine r_isret (c:=p136_15) (by kernel_rfl) ?_
      have hS222:=hS218.drop
      refine rR (.int .i64 ((n204 : Nat) : Int)) Tryz.func136 ?_
      cases hq214 _ (Option.some.inj hp221)
      exact hR _ _ ⟨rfl,hS222⟩
     refine sR 4 td28 ?_
     refine sR 1 td29 ?_
     exact rF _ (ih211 (n204 + rdw a0 n204) _ hp224 he209 _ _ hS218)
    have hp225:=ite_f hb210 h215
    refine r_next0 (c:=p136_11) (i:=0) (d:=(some 176)) (ty:=0) (x:=(.tmp 175)) (s:=a0) (b:=b190) (pos:=n204) 0 hS206 rfl (by kernel_rfl) (by kernel_rfl) (by kernel_rfl) h215 ?_
    refine sR 5 td26 ?_
    have hS226:=hS206.drop
    exact rF _ (J200 ((Option.some.inj hp225).trans he209) _ _ hS226)
   exact rF _ (L213 0 _ hv195 rfl _ _ hS192)
  refine sR 6 (.inRegion (opsOf p136_16) [1,2,3]::td31) ?_
  obtain ⟨t228,hr229,hp230⟩:=bind_some' hp227
  refine rC (utf8_ValidRune.ok hr229 hS0) ?_
  rintro _ w231 ⟨rfl,hS232⟩
  refine ⟨_,rfl,?_⟩
  refine sI 1 (.inRegion (opsOf p136_16) [3]::td31) 186 hp230 (fun hp235 => ?_) fun hp237 => ?_
  ·refine sR 7 (.code (cd136 [1,0,1,1,1,1,1,0,1])::td25) ?_
   refine rR (.int .i64 (-1)) Tryz.func136 ?_
   cases Option.some.inj hp235
   exact hR _ _ ⟨rfl,hS232⟩
  refine sR 29 td36 ?_
  obtain ⟨v238,hv239,hp240⟩:=bind_some' hp237
  have hq243 : ∀ x,Sum.inr x = v238 → x = q0:=by intro x hx; subst hx; simpa using hp240
  have J244 : ∀ (he246 : Sum.inl () = v238) (l245 : List Value) (w241 : World) (hS242 : St w0 Z (fs) w241),Runs Tryz.prog (fx 136) td33 (fill (mk 187 []) l245) w241 R:=by
   intro he246 l245 w241 hS242
   subst he246
   try dsimp only at hp240
   refine sR 5 (.code p136_22::.code p136_23::td32) ?_
   refine r_isret (c:=p136_22) (by kernel_rfl) ?_
   refine rR (.int .i64 (-1)) Tryz.func136 ?_
   cases Option.some.inj hp240
   exact hR _ _ ⟨rfl,hS242⟩
  have L257 : ∀ (t248 : Int) (e252 : Sum Unit Int),strings_IndexRune.l5 a0 a1 t248 = some e252 → e252 = v238 → ∀ (l251 : List Value) (w249 : World) (hS250 : St w0 Z (fs) w249),Runs Tryz.prog (fx 136) td36 (fill (mk 187 [(0,.string a0),(7,.string (Utf8.encode a1)),(8,.int .i64 (IntKind.i64.wrap (((Utf8.encode a1).size : Int) - 1))),(9,.int .i64 t248)]) l251) w249 R:=by
   intro t248 e252 hb254 he253 l251 w249 hS250
   unfold strings_IndexRune.l5 at hb254
   have hq258 : ∀ x,Sum.inr x = e252 → x = q0:=fun x hx => hq243 x (hx.trans he253)
   refine sI 7 (.inRegion (opsOf p136_24) []::.code p136_25::.code p136_26::td35) 26 hb254 (fun hp261 => ?_) fun hp358 => ?_
   ·refine sR 7 (.code p136_27::.code p136_28::td39) ?_
    refine r_quiet hS250 (c:=p136_27) (id:=6) (by kernel_rfl) (by kernel_rfl) (by kernel_rfl) (is:=[0,1,2,3,4,5,6]) (by kernel_rfl) ?_
    refine qR 2 (rg 2 5) ?_
    obtain ⟨g262,hp263⟩:=ite_some hp261
    refine qV (.index 9 (.tmp 27) (.tmp 28)) (.int .u8 (byt a0 t248)) (fun w hC o ho _ => x_indexStr (kk:=.i64) (by kernel_rfl) (by kernel_rfl) (by kernel_rfl) g262.1 g262.2 ho) ?_
    refine qR 2 [5,6] ?_
    obtain ⟨g264,hp265⟩:=ite_some hp263
    refine qV (.index 9 (.tmp 30) (.tmp 31)) (.int .u8 (byt (Utf8.encode a1) (IntKind.i64.wrap (((Utf8.encode a1).size : Int) - 1)))) (fun w hC o ho _ => x_indexStr (kk:=.i64) (by kernel_rfl) (by kernel_rfl) (by kernel_rfl) g264.1 g264.2 ho) ?_
    refine qI 1 [] 33 hp265 (fun hp268 => ?_) fun hp320 => ?_
    ·refine Qs.nil ?_
     intro w269 hS270
     refine sR 2 (.code p136_31::.code p136_32::td39) ?_
     refine r_quiet hS270 (c:=p136_31) (id:=7) (by kernel_rfl) (by kernel_rfl) (by kernel_rfl) (is:=[0,1,2,3,4,5,6,7,8]) (by kernel_rfl) ?_
     refine qR 3 (rg 3 6) ?_
     obtain ⟨g271,hp272⟩:=ite_some hp268
     refine qV (.slice 9 (.tmp 34) (some (.tmp 36)) none none) (.string (a0.extract (IntKind.i64.wrap (t248 + 1)).toNat a0.size)) (fun w hC o ho _ => x_cutStr_sn (k:=.i64) (by kernel_rfl) (by kernel_rfl) (by kernel_rfl) g271 ho) ?_
     refine qR 2 [6,7,8] ?_
     obtain ⟨g273,hp274⟩:=ite_some hp272
     refine qV (.index 9 (.tmp 38) (.tmp 39)) (.int .u8 (byt (Utf8.encode a1) (IntKind.i64.wrap (((Utf8.encode a1).size : Int) - 1)))) (fun w hC o ho _ => x_indexStr (kk:=.i64) (by kernel_rfl) (by kernel_rfl) (by kernel_rfl) g273.1 g273.2 ho) ?_
     obtain ⟨t275,hr276,hp277⟩:=bind_some' hp274
     refine q_call1 (c:=p136_31) (i:=7) (d:=(some 41)) (v:=.int .i64 t275) (g:=131) (args:=#[.string (a0.extract (IntKind.i64.wrap (t248 + 1)).toNat a0.size),.int .u8 (byt (Utf8.encode a1) (IntKind.i64.wrap (((Utf8.encode a1).size : Int) - 1)))]) (by kernel_rfl) (by kernel_rfl) (by kernel_rfl) (by kernel_rfl) (fun w hC => by
      refine (strings_IndexByte.ok (a0.extract (IntKind.i64.wrap (t248 + 1)).toNat a0.size) (byt (Utf8.encode a1) (IntKind.i64.wrap (((Utf8.encode a1).size : Int) - 1))) hC hr276).mono ?_
      rintro e w2 ⟨rfl,h2⟩
      exact ⟨rfl,h2⟩) ?_
     refine qR 1 [] ?_
     refine Qs.nil ?_
     intro w278 hS279
     refine sI 5 (.inRegion (opsOf p136_33) []::.code p136_34::td40) 43 hp277 (fun hp282 => ?_) fun hp284 => ?_
     ·refine sR 6 (.code p136_36::td40) ?_
      refine r_isret (c:=p136_36) (by kernel_rfl) ?_
      refine rR (.int .i64 (-1)) Tryz.func136 ?_
      cases hq258 _ (Option.some.inj hp282)
      exact hR _ _ ⟨rfl,hS279⟩
     refine sR 17 td44 ?_
     obtain ⟨v285,hv286,hp287⟩:=bind_some' hp284
     have J290 : ∀ (he292 : () = v285) (l291 : List Value) (w288 : World) (hS289 : St w0 Z (fs) w288),Runs Tryz.prog (fx 136) td41 (fill (mk 187 [(8,.int .i64 (IntKind.i64.wrap (((Utf8.encode a1).size : Int) - 1))),(9,.int .i64 (IntKind.i64.wrap (t248 + (IntKind.i64.wrap (t275 + 1)))))]) l291) w288 R:=by
      intro he292 l291 w288 hS289
      subst he292
      try dsimp only at hp287
      refine sR 8 td46 ?_
      refine r_isret (c:=p136_39) (by kernel_rfl) ?_
      refine rR (.int .i64 (IntKind.i64.wrap ((IntKind.i64.wrap (t248 + (IntKind.i64.wrap (t275 + 1)))) - (IntKind.i64.wrap (((Utf8.encode a1).size : Int) - 1))))) Tryz.func136 ?_
      cases hq258 _ (Option.some.inj hp287)
      exact hR _ _ ⟨rfl,hS289⟩
     have L303 : ∀ (t294 : Int) (e298 : Unit),strings_IndexRune.l6 a0 a1 t248 t275 t294 = some e298 → e298 = v285 → ∀ (l297 : List Value) (w295 : World) (hS296 : St w0 Z (fs) w295),Runs Tryz.prog (fx 136) td44 (fill (mk 187 [(0,.string a0),(7,.string (Utf8.encode a1)),(8,.int .i64 (IntKind.i64.wrap (((Utf8.encode a1).size : Int) - 1))),(9,.int .i64 (IntKind.i64.wrap (t248 + (IntKind.i64.wrap (t275 + 1))))),(12,.int .i64 t294)]) l297) w295 R:=by
      refine strings_IndexRune.l6.partial_correctness a0 a1 t248 t275 (fun t294 e298 => e298 = v285 → ∀ (l297 : List Value) (w295 : World) (hS296 : St w0 Z (fs) w295),Runs Tryz.prog (fx 136) td44 (fill (mk 187 [(0,.string a0),(7,.string (Utf8.encode a1)),(8,.int .i64 (IntKind.i64.wrap (((Utf8.encode a1).size : Int) - 1))),(9,.int .i64 (IntKind.i64.wrap (t248 + (IntKind.i64.wrap (t275 + 1))))),(12,.int .i64 t294)]) l297) w295 R) ?_
      intro rec302 ih301 t294 e298 hb300 he299 l297 w295 hS296
      refine sI 7 td49 51 hb300 (fun hp306 => ?_) fun hp319 => ?_
      ·refine sR 6 td53 ?_
       refine r_quiet hS296 (c:=p136_44) (id:=14) (by kernel_rfl) (by kernel_rfl) (by kernel_rfl) (is:=[0,1,2,3,4,5,6,7,8,9,10]) (by kernel_rfl) ?_
       refine qR 4 (rg 4 7) ?_
       obtain ⟨g307,hp308⟩:=ite_some hp306
       refine qV (.index 9 (.tmp 54) (.tmp 57)) (.int .u8 (byt a0 (IntKind.i64.wrap ((IntKind.i64.wrap (t248 + (IntKind.i64.wrap (t275 + 1)))) - t294)))) (fun w hC o ho _ => x_indexStr (kk:=.i64) (by kernel_rfl) (by kernel_rfl) (by kernel_rfl) g307.1 g307.2 ho) ?_
       refine qR 4 [9,10] ?_
       obtain ⟨g309,hp310⟩:=ite_some hp308
       refine qV (.index 9 (.tmp 59) (.tmp 62)) (.int .u8 (byt (Utf8.encode a1) (IntKind.i64.wrap ((IntKind.i64.wrap (((Utf8.encode a1).size : Int) - 1)) - t294)))) (fun w hC o ho _ => x_indexStr (kk:=.i64) (by kernel_rfl) (by kernel_rfl) (by kernel_rfl) g309.1 g309.2 ho) ?_
       refine qI 1 [] 64 hp310 (fun hp313 => ?_) fun hp316 => ?_
       ·refine Qs.nil ?_
        intro w314 hS315
        refine sR 1 td54 ?_
        cases hp313
       refine Qs.nil ?_
       intro w317 hS318
       refine sR 8 td43 ?_
       refine sR 1 td44 ?_
       exact rF _ (ih301 (IntKind.i64.wrap (t294 + 1)) _ hp316 he299 _ _ hS318)
      refine sR 3 td41 ?_
      exact rF _ (J290 ((Option.some.inj hp319).trans he299) _ _ hS296)
     exact rF _ (L303 1 _ hv286 rfl _ _ hS279)
    refine Qs.nil ?_
    intro w321 hS322
    refine sR 9 td44 ?_
    obtain ⟨v323,hv324,hp325⟩:=bind_some' hp320
    have J328 : ∀ (he330 : () = v323) (l329 : List Value) (w326 : World) (hS327 : St w0 Z (fs) w326),Runs Tryz.prog (fx 136) td41 (fill (mk 187 [(8,.int .i64 (IntKind.i64.wrap (((Utf8.encode a1).size : Int) - 1))),(9,.int .i64 t248)]) l329) w326 R:=by
     intro he330 l329 w326 hS327
     subst he330
     try dsimp only at hp325
     refine sR 8 td46 ?_
     refine r_isret (c:=p136_39) (by kernel_rfl) ?_
     refine rR (.int .i64 (IntKind.i64.wrap (t248 - (IntKind.i64.wrap (((Utf8.encode a1).size : Int) - 1))))) Tryz.func136 ?_
     cases hq258 _ (Option.some.inj hp325)
     exact hR _ _ ⟨rfl,hS327⟩
    have L341 : ∀ (t332 : Int) (e336 : Unit),strings_IndexRune.l7 a0 a1 t248 t332 = some e336 → e336 = v323 → ∀ (l335 : List Value) (w333 : World) (hS334 : St w0 Z (fs) w333),Runs Tryz.prog (fx 136) td44 (fill (mk 187 [(0,.string a0),(7,.string (Utf8.encode a1)),(8,.int .i64 (IntKind.i64.wrap (((Utf8.encode a1).size : Int) - 1))),(9,.int .i64 t248),(12,.int .i64 t332)]) l335) w333 R:=by
     refine strings_IndexRune.l7.partial_correctness a0 a1 t248 (fun t332 e336 => e336 = v323 → ∀ (l335 : List Value) (w333 : World) (hS334 : St w0 Z (fs) w333),Runs Tryz.prog (fx 136) td44 (fill (mk 187 [(0,.string a0),(7,.string (Utf8.encode a1)),(8,.int .i64 (IntKind.i64.wrap (((Utf8.encode a1).size : Int) - 1))),(9,.int .i64 t248),(12,.int .i64 t332)]) l335) w333 R) ?_
     intro rec340 ih339 t332 e336 hb338 he337 l335 w333 hS334
     refine sI 7 td49 51 hb338 (fun hp344 => ?_) fun hp357 => ?_
     ·refine sR 6 td53 ?_
      refine r_quiet hS334 (c:=p136_44) (id:=14) (by kernel_rfl) (by kernel_rfl) (by kernel_rfl) (is:=[0,1,2,3,4,5,6,7,8,9,10]) (by kernel_rfl) ?_
      refine qR 4 (rg 4 7) ?_
      obtain ⟨g345,hp346⟩:=ite_some hp344
      refine qV (.index 9 (.tmp 54) (.tmp 57)) (.int .u8 (byt a0 (IntKind.i64.wrap (t248 - t332)))) (fun w hC o ho _ => x_indexStr (kk:=.i64) (by kernel_rfl) (by kernel_rfl) (by kernel_rfl) g345.1 g345.2 ho) ?_
      refine qR 4 [9,10] ?_
      obtain ⟨g347,hp348⟩:=ite_some hp346
      refine qV (.index 9 (.tmp 59) (.tmp 62)) (.int .u8 (byt (Utf8.encode a1) (IntKind.i64.wrap ((IntKind.i64.wrap (((Utf8.encode a1).size : Int) - 1)) - t332)))) (fun w hC o ho _ => x_indexStr (kk:=.i64) (by kernel_rfl) (by kernel_rfl) (by kernel_rfl) g347.1 g347.2 ho) ?_
      refine qI 1 [] 64 hp348 (fun hp351 => ?_) fun hp354 => ?_
      ·refine Qs.nil ?_
       intro w352 hS353
       refine sR 1 td54 ?_
       cases hp351
      refine Qs.nil ?_
      intro w355 hS356
      refine sR 8 td43 ?_
      refine sR 1 td44 ?_
      exact rF _ (ih339 (IntKind.i64.wrap (t332 + 1)) _ hp354 he337 _ _ hS356)
     refine sR 3 td41 ?_
     exact rF _ (J328 ((Option.some.inj hp357).trans he337) _ _ hS334)
    exact rF _ (L341 1 _ hv324 rfl _ _ hS322)
   refine sR 3 td33 ?_
   exact rF _ (J244 ((Option.some.inj hp358).trans he253) _ _ hS250)
  exact rF _ (L257 (IntKind.i64.wrap (((Utf8.encode a1).size : Int) - 1)) _ hv239 rfl _ _ hS232)

noncomputable def cd137 (p : List Nat) : Code := sub (bodyOf Tryz.f137) p
def strings_shouldUseASCIISet.f (a0 : Int) : Option Bool :=
  (if (decide (a0 > 8)) = true then some (true) else some (false))
theorem strings_shouldUseASCIISet.ok {a0 : Int} {q0 : Bool} (hp0 : strings_shouldUseASCIISet.f a0 = some q0) (hS0 : St w0 Z (fs) w) :
    Calls Tryz.prog 137 #[.int .i64 a0] w (fun e w' => e = .returned (.bool q0) ∧ St w0 Z (fs) w'):=by
  refine calls_abs ?_; intro R hR
  unfold strings_shouldUseASCIISet.f at hp0
  refine calls_of_runs (fn:=Tryz.f137) (c:=cd137 []) Tryz.func137 (by kernel_rfl) (al:=[.int .i64 a0]) rfl (n:=4) rfl ?_
  refine sI 8 [.inRegion (opsOf (cd137 [1,0])) [2],.code (cd137 [1,1])] 4 hp0 (fun hp3 => ?_) fun hp5 => ?_
  ·refine sR 2 [.code (cd137 [1,1])] ?_
   refine rR (.bool true) Tryz.func137 ?_
   cases Option.some.inj hp3
   exact hR _ _ ⟨rfl,hS0⟩
  refine sR 2 [.code (cd137 [1,1])] ?_
  refine rR (.bool false) Tryz.func137 ?_
  cases Option.some.inj hp5
  exact hR _ _ ⟨rfl,hS0⟩

noncomputable def cd138 (p : List Nat) : Code := sub (bodyOf Tryz.f138) p
abbrev p138_14:=cd138 [1,0,1,0,0,1,0,0,1,1]
abbrev p138_15:=cd138 [1,0,1,0,0,1,0,0,1,0,1,0,0]
abbrev p138_16:=cd138 [1,0,1,0,0,1,0,0,1,0,1,0,1]
abbrev td55:List Item:=[.code (cd138 [1,1])]
abbrev td56:List Item:=.inBlock 0::td55
abbrev td57:List Item:=.inLoop (cd138 [1,0,1,0,0])::td56
abbrev td58:List Item:=.code (cd138 [1,0,1,0,0])::td57
abbrev td59:List Item:=.code (cd138 [1,0,1,0,0,1,1])::td57
abbrev td60:List Item:=.inBlock 1::td59
abbrev td61:List Item:=.code p138_14::td60
def strings_makeASCIISet.l0 (a0 : ByteArray) (t19 : Int) (t20 : Vector Bool 256) : Option (Sum (Vector Bool 256) ((Vector Bool 256) × Bool)) :=
  (if (decide (t19 < (a0.size : Int))) = true then (if 0 ≤ t19 ∧ t19 < (a0.size : Int) then (if (decide ((byt a0 t19) ≥ 128)) = true then some (.inr ((t20,false))) else (if 0 ≤ (byt a0 t19) ∧ (byt a0 t19) < 256 then (strings_makeASCIISet.l0 a0 (IntKind.i64.wrap (t19 + 1)) (vset t20 (byt a0 t19) true)) else none)) else none) else some (.inl t20))
 partial_fixpoint
def strings_makeASCIISet.f (a0 : ByteArray) : Option ((Vector Bool 256) × Bool) :=
  (strings_makeASCIISet.l0 a0 0 (Vector.replicate 256 false) >>= (fun | .inl t8 => some ((t8,true)) | .inr e => some e))
theorem strings_makeASCIISet.ok {a0 : ByteArray} {q0 : Vector Bool 256} {q1 : Bool} (hp0 : strings_makeASCIISet.f a0 = some (q0,q1)) (hS0 : St w0 Z (fs) w) :
    Calls Tryz.prog 138 #[.string a0] w (fun e w' => e = .returned (.tuple #[.agg ((encV encB) q0).toArray,.bool q1]) ∧ St w0 Z (fs) w'):=by
  refine calls_abs ?_; intro R hR
  unfold strings_makeASCIISet.f at hp0
  refine calls_of_runs (fn:=Tryz.f138) (c:=cd138 []) Tryz.func138 (by kernel_rfl) (al:=[.string a0]) rfl (n:=20) rfl ?_
  refine sR 2 [.inRegion (opsOf (cd138 [0])) [0,1],.code (cd138 [1])] ?_
  refine rA 217 (.agg ((encV encB) (Vector.replicate 256 false)).toArray) ((encV encB) (Vector.replicate 256 false)) hS0 ?_
  intro b1 w2 hS3
  refine sR 9 td58 ?_
  obtain ⟨v5,hv6,hp7⟩:=bind_some' hp0
  have hq11 : ∀ x,Sum.inr x = v5 → x = (q0,q1):=by intro x hx; subst hx; simpa using hp7
  have J12 : ∀ (t8 : Vector Bool 256) (he14 : Sum.inl t8 = v5) (l13 : List Value) (w9 : World) (hS10 : St w0 Z (xblk b1 217 ((encV encB) t8)::fs) w9),Runs Tryz.prog (fx 138) td55 (fill (mk 21 [(2,.pointer (some ⟨b1,0,none⟩))]) l13) w9 R:=by
   intro t8 he14 l13 w9 hS10
   subst he14
   try dsimp only at hp7
   refine sR 2 [.inRegion (opsOf (cd138 [1,1,0])) [0,1,2],.code (cd138 [1,1,1])] ?_
   refine rL 217 (.tmp 2) (loads_agg (hS10.blk 0 rfl) (by kernel_rfl) (lenK ((len_encV len_encB) _) (by kernel_rfl))) ?_
   refine r_store (c:=(cd138 [1,1,0])) (i:=1) (d:=none) (ty:=0) (t:=217) (x:=(.tmp 2)) (y:=(.tmp 20)) (b:=b1) (o:=0) (e:=217) (cs:=(encV encB) t8) (v:=.agg ((encV encB) t8).toArray) (vs:=(encV encB) t8) (cs':=(encV encB) t8) hS10 (by kernel_rfl) (by kernel_rfl) (by kernel_rfl) (by kernel_rfl) (by kernel_rfl) (lenK ((len_encV len_encB) _) (by kernel_rfl)) ((one_encV one_encB) _) (by simp only [len_encV len_encB,List.length_cons,List.length_nil,List.length_append]; omega) (over_all (((len_encV len_encB) _).trans ((len_encV len_encB) _).symm)) ?_
   intro w15 hS16
   refine sR 2 [.code (cd138 [1,1,1])] ?_
   have hS17:=hS16.drop
   refine runs_ret (fn:=Tryz.f138) (v:=.tuple #[.agg ((encV encB) t8).toArray,.bool true]) Tryz.func138 (resl_run (fn:=Tryz.f138) (by kernel_rfl) (.cell (t:=2) (ty:=217) (by kernel_rfl) (loads_agg (hS16.blk 0 rfl) (by kernel_rfl) (lenK ((len_encV len_encB) _) (by kernel_rfl))) (.tmp (t:=3) (by kernel_rfl) .nil))) ?_
   cases Option.some.inj hp7
   exact hR _ _ ⟨rfl,hS17⟩
  have L29 : ∀ (t19 : Int) (t20 : Vector Bool 256) (e24 : Sum (Vector Bool 256) ((Vector Bool 256) × Bool)),strings_makeASCIISet.l0 a0 t19 t20 = some e24 → e24 = v5 → ∀ (l23 : List Value) (w21 : World) (hS22 : St w0 Z (xblk b1 217 ((encV encB) t20)::fs) w21),Runs Tryz.prog (fx 138) td58 (fill (mk 21 [(0,.string a0),(2,.pointer (some ⟨b1,0,none⟩)),(4,.int .i64 t19)]) l23) w21 R:=by
   refine strings_makeASCIISet.l0.partial_correctness a0 (fun t19 t20 e24 => e24 = v5 → ∀ (l23 : List Value) (w21 : World) (hS22 : St w0 Z (xblk b1 217 ((encV encB) t20)::fs) w21),Runs Tryz.prog (fx 138) td58 (fill (mk 21 [(0,.string a0),(2,.pointer (some ⟨b1,0,none⟩)),(4,.int .i64 t19)]) l23) w21 R) ?_
   intro rec28 ih27 t19 t20 e24 hb26 he25 l23 w21 hS22
   have hq30 : ∀ x,Sum.inr x = e24 → x = (q0,q1):=fun x hx => hq11 x (hx.trans he25)
   refine sI 7 (.inRegion (opsOf (cd138 [1,0,1,0,0,0,0])) []::.code (cd138 [1,0,1,0,0,0,1])::.code (cd138 [1,0,1,0,0,1])::td57) 9 hb26 (fun hp33 => ?_) fun hp48 => ?_
   ·refine sR 9 (.inRegion (opsOf (cd138 [1,0,1,0,0,1,0,0,0])) [2,3]::.code (cd138 [1,0,1,0,0,1,0,0,1])::td60) ?_
    obtain ⟨g34,hp35⟩:=ite_some hp33
    refine rV (.index 9 (.tmp 12) (.tmp 13)) (.int .u8 (byt a0 t19)) (fun o ho _ => x_indexStr (kk:=.i64) (by kernel_rfl) (by kernel_rfl) (by kernel_rfl) g34.1 g34.2 ho) ?_
    refine sI 7 (.inRegion (opsOf (cd138 [1,0,1,0,0,1,0,0,1,0,0])) []::.code (cd138 [1,0,1,0,0,1,0,0,1,0,1])::td61) 16 hp35 (fun hp38 => ?_) fun hp43 => ?_
    ·refine sR 4 (.inRegion (opsOf p138_15) [0,1,2]::.code p138_16::td61) ?_
     refine rL 217 (.tmp 2) (loads_agg (hS22.blk 0 rfl) (by kernel_rfl) (lenK ((len_encV len_encB) _) (by kernel_rfl))) ?_
     refine r_store (c:=p138_15) (i:=1) (d:=none) (ty:=0) (t:=217) (x:=(.tmp 2)) (y:=(.tmp 17)) (b:=b1) (o:=0) (e:=217) (cs:=(encV encB) t20) (v:=.agg ((encV encB) t20).toArray) (vs:=(encV encB) t20) (cs':=(encV encB) t20) hS22 (by kernel_rfl) (by kernel_rfl) (by kernel_rfl) (by kernel_rfl) (by kernel_rfl) (lenK ((len_encV len_encB) _) (by kernel_rfl)) ((one_encV one_encB) _) (by simp only [len_encV len_encB,List.length_cons,List.length_nil,List.length_append]; omega) (over_all (((len_encV len_encB) _).trans ((len_encV len_encB) _).symm)) ?_
     intro w39 hS40
     refine sR 2 (.code p138_16::td61) ?_
     refine r_isret (c:=p138_16) (by kernel_rfl) ?_
     have hS41:=hS40.drop
     refine runs_ret (fn:=Tryz.f138) (v:=.tuple #[.agg ((encV encB) t20).toArray,.bool false]) Tryz.func138 (resl_run (fn:=Tryz.f138) (by kernel_rfl) (.cell (t:=2) (ty:=217) (by kernel_rfl) (loads_agg (hS40.blk 0 rfl) (by kernel_rfl) (lenK ((len_encV len_encB) _) (by kernel_rfl))) (.tmp (t:=3) (by kernel_rfl) .nil))) ?_
     cases hq30 _ (Option.some.inj hp38)
     exact hR _ _ ⟨rfl,hS41⟩
    refine sR 5 (.inRegion (opsOf p138_14) [1,2]::td60) ?_
    obtain ⟨g44,hp45⟩:=ite_some hp43
    refine r_indexArr (c:=p138_14) (i:=1) (d:=(some 19)) (ty:=0) (t:=217) (e:=4) (sz:=1) (kk:=.u8) (x:=(.tmp 2)) (y:=(.tmp 18)) (b:=b1) (o':=0) (n:=256) (j:=(byt a0 t19)) (by kernel_rfl) (by kernel_rfl) (by kernel_rfl) (by kernel_rfl) (by kernel_rfl) (by kernel_rfl) g44.1 g44.2 ?_
    refine r_store (c:=p138_14) (i:=2) (d:=none) (ty:=0) (t:=4) (x:=(.tmp 19)) (y:=(.const (.bool true))) (b:=b1) (o:=0 + (byt a0 t19).toNat * 1) (e:=217) (cs:=(encV encB) t20) (v:=.bool true) (vs:=[.bool true]) (cs':=(encV encB) (vset t20 (byt a0 t19) true)) hS22 (by kernel_rfl) (by kernel_rfl) (by kernel_rfl) (by kernel_rfl) (by kernel_rfl) (by kernel_rfl) (by kernel_rfl) (by have:=g44.1; have:=g44.2; simp only [len_encV len_encB,List.length_cons,List.length_nil,List.length_append]; omega) (by have h:=over_vset (o:=0) (enc:=encB) (v:=t20) (pre:=[]) (post:=[]) (x:=true) len_encB g44.1 g44.2 rfl; simpa [encB] using h) ?_
    intro w46 hS47
    refine sR 7 td57 ?_
    refine sR 1 td58 ?_
    exact rF _ (ih27 (IntKind.i64.wrap (t19 + 1)) (vset t20 (byt a0 t19) true) _ hp45 he25 _ _ hS47)
   refine sR 3 td55 ?_
   exact rF _ (J12 t20 ((Option.some.inj hp48).trans he25) _ _ hS22)
  exact rF _ (L29 0 (Vector.replicate 256 false) _ hv6 rfl _ _ hS3)

noncomputable def cd139 (p : List Nat) : Code := sub (bodyOf Tryz.f139) p
def strings_asciiSet__contains.f (a0v : Vector Bool 256) (a1 : Int) : Option Bool :=
  (if 0 ≤ a1 ∧ a1 < 256 then (if (vget a0v a1) = true then some (true) else some (false)) else none)
theorem strings_asciiSet__contains.ok {a0v : Vector Bool 256} {a1 : Int} {ba0 : Nat} {q0 : Bool} (hp0 : strings_asciiSet__contains.f a0v a1 = some q0) (hS0 : St w0 Z (xblk ba0 217 ((encV encB) a0v)::fs) w) :
    Calls Tryz.prog 139 #[.pointer (some ⟨ba0,0,none⟩),.int .u8 a1] w (fun e w' => e = .returned (.bool q0) ∧ St w0 Z (xblk ba0 217 ((encV encB) a0v)::fs) w'):=by
  refine calls_abs ?_; intro R hR
  unfold strings_asciiSet__contains.f at hp0
  refine calls_of_runs (fn:=Tryz.f139) (c:=cd139 []) Tryz.func139 (by kernel_rfl) (al:=[.pointer (some ⟨ba0,0,none⟩),.int .u8 a1]) rfl (n:=8) rfl ?_
  refine sR 9 [.inRegion (opsOf (cd139 [1,0])) [3,4,5],.code (cd139 [1,1])] ?_
  obtain ⟨g1,hp2⟩:=ite_some hp0
  refine r_indexArr (c:=(cd139 [1,0])) (i:=3) (d:=(some 8)) (ty:=0) (t:=217) (e:=4) (sz:=1) (kk:=.u8) (x:=(.tmp 7)) (y:=(.tmp 6)) (b:=ba0) (o':=0) (n:=256) (j:=a1) (by kernel_rfl) (by kernel_rfl) (by kernel_rfl) (by kernel_rfl) (by kernel_rfl) (by kernel_rfl) g1.1 g1.2 ?_
  refine rL1 4 (.tmp 8) 0 (cells_vget (hS0.blk 0 rfl) len_encB g1.1 g1.2) ?_
  refine r_split (vget a0v a1) (fun h3 => ?_) (fun h4 => ?_)
  ·have hp5:=ite_t hp2 h3
   refine sR 2 [.code (cd139 [1,1])] ?_
   refine rR (.bool true) Tryz.func139 ?_
   cases Option.some.inj hp5
   exact hR _ _ ⟨rfl,hS0⟩
  have hp7:=ite_f hp2 h4
  refine sR 2 [.code (cd139 [1,1])] ?_
  refine rR (.bool false) Tryz.func139 ?_
  cases Option.some.inj hp7
  exact hR _ _ ⟨rfl,hS0⟩

noncomputable def cd107 (p : List Nat) : Code := sub (bodyOf Tryz.f107) p
abbrev p107_22:=cd107 [1,1,1,1,0,1,0,0,0]
abbrev p107_24:=cd107 [1,1,1,1,0,1,0,0,1,1,0,1,0]
abbrev p107_25:=cd107 [1,1,1,1,0,1,0,0,1,1,0,1,1]
abbrev p107_26:=cd107 [1,1,1,1,0,1,0,0,1,1,0,1,1,0,1]
abbrev p107_27:=cd107 [1,1,1,0,1,0,0]
abbrev p107_30:=cd107 [1,1,1,0,1,0,1,1,0,0,1,0,0]
abbrev p107_37:=cd107 [1,1,1,0,1,0,1,1,0,0,1,0,0,1,0,0,1]
abbrev p107_39:=cd107 [1,1,1,0,1,0,1,1,0,0,1,0,0,1,0,0,1,0,1]
abbrev td62:List Item:=[.code (cd107 [1,1,1])]
abbrev td63:List Item:=.code (cd107 [1,1,0,1,0,1,1])::td62
abbrev td64:List Item:=[.code (cd107 [1,1,1,1])]
abbrev td65:List Item:=[.code (cd107 [1,1,1,1,1])]
abbrev td66:List Item:=.inBlock 2::td65
abbrev td67:List Item:=.inLoop (cd107 [1,1,1,1,0,1,0,0])::td66
abbrev td68:List Item:=.code (cd107 [1,1,1,1,0,1,0,0])::td67
abbrev td69:List Item:=.inBlock 3::td67
abbrev td70:List Item:=.code (cd107 [1,1,1,0,1,0,1,1,0,1])::td64
abbrev td71:List Item:=.inBlock 0::td70
abbrev td72:List Item:=.inLoop p107_30::td71
abbrev td73:List Item:=.code p107_30::td72
abbrev td74:List Item:=.code (cd107 [1,1,1,0,1,0,1,1,0,0,1,0,0,1,1])::td72
abbrev td75:List Item:=.inBlock 1::td74
def strings_IndexAny.l0 (a0 a1 : ByteArray) (n59 : Nat) : Option (Sum Unit Int) :=
  (if (decide (n59 < a0.size)) = true then (strings_IndexRune.f a1 (rdc a0 n59) >>= (fun t74 => (if (decide (t74 ≥ 0)) = true then some (.inr (((n59 : Nat) : Int))) else (strings_IndexAny.l0 a0 a1 (n59 + rdw a0 n59))))) else some (.inl ()))
 partial_fixpoint
def strings_IndexAny.l1 (a0 : ByteArray) (t89 : Vector Bool 256) (t114 : Int) : Option (Sum Unit (Sum Unit Int)) :=
  (if (decide (t114 < (a0.size : Int))) = true then (if 0 ≤ t114 ∧ t114 < (a0.size : Int) then (strings_asciiSet__contains.f t89 (byt a0 t114) >>= (fun t130 => (if t130 = true then some (.inr (.inr (t114))) else (strings_IndexAny.l1 a0 t89 (IntKind.i64.wrap (t114 + 1)))))) else none) else some (.inl ()))
 partial_fixpoint
def strings_IndexAny.f (a0 a1 : ByteArray) : Option Int :=
  (if (seq a1 (⟨#[]⟩ : ByteArray)) = true then some ((-1)) else (if ((a1.size : Int) == 1) = true then (if 0 ≤ (0 : Int) ∧ (0 : Int) < (a1.size : Int) then (((if (decide ((IntKind.i32.wrap (byt a1 (0 : Int))) ≥ 128)) = true then some (65533) else some ((IntKind.i32.wrap (byt a1 (0 : Int))))) : Option Int) >>= (fun t14 => (strings_IndexRune.f a0 t14 >>= (fun t20 => some (t20))))) else none) else (strings_shouldUseASCIISet.f (a0.size : Int) >>= (fun t31 => (((if t31 = true then (strings_makeASCIISet.f a1 >>= (fun (t89,t90) => (if t90 = true then (strings_IndexAny.l1 a0 t89 0 >>= (fun | .inl () => some (.inr ((-1))) | .inr e => some e)) else some (.inl ())))) else some (.inl ())) : Option (Sum Unit Int)) >>= (fun | .inl () => (strings_IndexAny.l0 a0 a1 0 >>= (fun | .inl () => some ((-1)) | .inr e => some e)) | .inr e => some e))))))
theorem strings_IndexAny.ok {a0 a1 : ByteArray} {q0 : Int} (hp0 : strings_IndexAny.f a0 a1 = some q0) (hS0 : St w0 Z (fs) w) :
    Calls Tryz.prog 107 #[.string a0,.string a1] w (fun e w' => e = .returned (.int .i64 q0) ∧ St w0 Z (fs) w'):=by
  refine calls_abs ?_; intro R hR
  unfold strings_IndexAny.f at hp0
  refine calls_of_runs (fn:=Tryz.f107) (c:=cd107 []) Tryz.func107 (by kernel_rfl) (al:=[.string a0,.string a1]) rfl (n:=53) rfl ?_
  refine sI 9 [.inRegion (opsOf (cd107 [1,0,0])) [],.code (cd107 [1,0,1]),.code (cd107 [1,1])] 12 hp0 (fun hp3 => ?_) fun hp5 => ?_
  ·refine sR 6 [.code (cd107 [1,0,1,0,1]),.code (cd107 [1,1])] ?_
   refine rR (.int .i64 (-1)) Tryz.func107 ?_
   cases Option.some.inj hp3
   exact hR _ _ ⟨rfl,hS0⟩
  refine sI 9 (.inRegion (opsOf (cd107 [1,1,0,0])) []::.code (cd107 [1,1,0,1])::td62) 15 hp5 (fun hp8 => ?_) fun hp30 => ?_
  ·refine sR 5 (.inRegion (opsOf (cd107 [1,1,0,1,0,0])) [1,2,3]::.code (cd107 [1,1,0,1,0,1])::td62) ?_
   obtain ⟨g9,hp10⟩:=ite_some hp8
   refine rV (.index 9 (.tmp 16) (.const (.int .i64 0))) (.int .u8 (byt a1 (0 : Int))) (fun o ho _ => x_indexStr (kk:=.i64) (by kernel_rfl) (by kernel_rfl) (by kernel_rfl) g9.1 g9.2 ho) ?_
   obtain ⟨v11,hv12,hp13⟩:=bind_some' hp10
   have J17 : ∀ (t14 : Int) (he19 : t14 = v11) (l18 : List Value) (w15 : World) (hS16 : St w0 Z (fs) w15),Runs Tryz.prog (fx 107) td63 (fill (mk 55 [(0,.string a0),(5,.int .i32 t14)]) l18) w15 R:=by
    intro t14 he19 l18 w15 hS16
    subst he19
    try dsimp only at hp13
    refine sR 4 (.inRegion (opsOf (cd107 [1,1,0,1,0,1,1,0])) [2,3]::.code (cd107 [1,1,0,1,0,1,1,1])::td62) ?_
    obtain ⟨t20,hr21,hp22⟩:=bind_some' hp13
    refine rC (strings_IndexRune.ok hr21 hS16) ?_
    rintro _ w23 ⟨rfl,hS24⟩
    refine ⟨_,rfl,?_⟩
    refine sR 2 (.code (cd107 [1,1,0,1,0,1,1,1])::td62) ?_
    refine rR (.int .i64 t20) Tryz.func107 ?_
    cases Option.some.inj hp22
    exact hR _ _ ⟨rfl,hS24⟩
   refine sI 8 (.inRegion (opsOf (cd107 [1,1,0,1,0,1,0,0])) []::.code (cd107 [1,1,0,1,0,1,0,1])::td63) 20 hv12 (fun hp28 => ?_) fun hp29 => ?_
   ·refine sR 5 td63 ?_
    exact rF _ (J17 65533 (Option.some.inj hp28) _ _ hS0)
   refine sR 3 td63 ?_
   exact rF _ (J17 (IntKind.i32.wrap (byt a1 (0 : Int))) (Option.some.inj hp29) _ _ hS0)
  refine sR 8 (.inRegion (opsOf (cd107 [1,1,1,0,0])) [2]::.code (cd107 [1,1,1,0,1])::td64) ?_
  obtain ⟨t31,hr32,hp33⟩:=bind_some' hp30
  refine rC (strings_shouldUseASCIISet.ok hr32 hS0) ?_
  rintro _ w34 ⟨rfl,hS35⟩
  refine ⟨_,rfl,?_⟩
  refine sR 1 (.code (cd107 [1,1,1,0,1])::td64) ?_
  obtain ⟨v36,hv37,hp38⟩:=bind_some' hp33
  have hq41 : ∀ x,Sum.inr x = v36 → x = q0:=by intro x hx; subst hx; simpa using hp38
  have J42 : ∀ (he44 : Sum.inl () = v36) (l43 : List Value) (w39 : World) (hS40 : St w0 Z (fs) w39),Runs Tryz.prog (fx 107) td64 (fill (mk 55 [(0,.string a0),(1,.string a1)]) l43) w39 R:=by
   intro he44 l43 w39 hS40
   subst he44
   try dsimp only at hp38
   refine sR 4 (.inRegion (opsOf (cd107 [1,1,1,1,0,0])) [1]::.code (cd107 [1,1,1,1,0,1])::td65) ?_
   refine r_range (c:=(cd107 [1,1,1,1,0,0])) (i:=1) (d:=(some 45)) (ty:=0) (t:=9) (x:=(.tmp 44)) (s:=a0) hS40 (by kernel_rfl) (by kernel_rfl) (by kernel_rfl) (by kernel_rfl) ?_
   intro b45 w46 hS47
   refine sR 3 td68 ?_
   obtain ⟨v49,hv50,hp51⟩:=bind_some' hp38
   have hq54 : ∀ x,Sum.inr x = v49 → x = q0:=by intro x hx; subst hx; simpa using hp51
   have J55 : ∀ (he57 : Sum.inl () = v49) (l56 : List Value) (w52 : World) (hS53 : St w0 Z (fs) w52),Runs Tryz.prog (fx 107) td65 (fill (mk 55 []) l56) w52 R:=by
    intro he57 l56 w52 hS53
    subst he57
    try dsimp only at hp51
    refine sR 4 [.code (cd107 [1,1,1,1,1,1])] ?_
    refine rR (.int .i64 (-1)) Tryz.func107 ?_
    cases Option.some.inj hp51
    exact hR _ _ ⟨rfl,hS53⟩
   have L68 : ∀ (n59 : Nat) (e63 : Sum Unit Int),strings_IndexAny.l0 a0 a1 n59 = some e63 → e63 = v49 → ∀ (l62 : List Value) (w60 : World) (hS61 : St w0 Z (xit b45 a0 n59::fs) w60),Runs Tryz.prog (fx 107) td68 (fill (mk 55 [(1,.string a1),(45,.pointer (some ⟨b45,0,none⟩))]) l62) w60 R:=by
    refine strings_IndexAny.l0.partial_correctness a0 a1 (fun n59 e63 => e63 = v49 → ∀ (l62 : List Value) (w60 : World) (hS61 : St w0 Z (xit b45 a0 n59::fs) w60),Runs Tryz.prog (fx 107) td68 (fill (mk 55 [(1,.string a1),(45,.pointer (some ⟨b45,0,none⟩))]) l62) w60 R) ?_
    intro rec67 ih66 n59 e63 hb65 he64 l62 w60 hS61
    have hq69 : ∀ x,Sum.inr x = e63 → x = q0:=fun x hx => hq54 x (hx.trans he64)
    refine sR 2 (.inRegion (opsOf p107_22) [0,1]::.code (cd107 [1,1,1,1,0,1,0,0,1])::td67) ?_
    rcases Bool.eq_false_or_eq_true (decide (n59 < a0.size)) with h70 | h70
    ·have hp71:=ite_t hb65 h70
     refine r_next1 (c:=p107_22) (i:=0) (d:=(some 46)) (ty:=0) (x:=(.tmp 45)) (s:=a0) (b:=b45) (pos:=n59) hS61 (by kernel_rfl) (by kernel_rfl) (by kernel_rfl) h70 ?_
     intro w72 hS73
     refine sR 17 (.inRegion (opsOf p107_24) [2,3]::.code p107_25::td69) ?_
     obtain ⟨t74,hr75,hp76⟩:=bind_some' hp71
     refine rC (strings_IndexRune.ok hr75 hS73) ?_
     rintro _ w77 ⟨rfl,hS78⟩
     refine ⟨_,rfl,?_⟩
     refine sI 1 (.inRegion (opsOf p107_24) []::.code p107_25::td69) 53 hp76 (fun hp81 => ?_) fun hp84 => ?_
     ·refine sR 7 (.code p107_26::td69) ?_
      refine r_isret (c:=p107_26) (by kernel_rfl) ?_
      have hS82:=hS78.drop
      refine rR (.int .i64 ((n59 : Nat) : Int)) Tryz.func107 ?_
      cases hq69 _ (Option.some.inj hp81)
      exact hR _ _ ⟨rfl,hS82⟩
     refine sR 4 td67 ?_
     refine sR 1 td68 ?_
     exact rF _ (ih66 (n59 + rdw a0 n59) _ hp84 he64 _ _ hS78)
    have hp85:=ite_f hb65 h70
    refine r_next0 (c:=p107_22) (i:=0) (d:=(some 46)) (ty:=0) (x:=(.tmp 45)) (s:=a0) (b:=b45) (pos:=n59) 0 hS61 rfl (by kernel_rfl) (by kernel_rfl) (by kernel_rfl) h70 ?_
    refine sR 5 td65 ?_
    have hS86:=hS61.drop
    exact rF _ (J55 ((Option.some.inj hp85).trans he64) _ _ hS86)
   exact rF _ (L68 0 _ hv50 rfl _ _ hS47)
  cases t31
  ·have hp87:=ite_f hv37 rfl
   refine sR 2 td64 ?_
   exact rF _ (J42 (Option.some.inj hp87) _ _ hS35)
  have hp88:=ite_t hv37 rfl
  refine sR 4 (iR p107_27 1 7::.code (cd107 [1,1,1,0,1,0,1])::td64) ?_
  obtain ⟨⟨t89,t90⟩,hr91,hp92⟩:=bind_some' hp88
  try dsimp only at hp92
  refine rC (strings_makeASCIISet.ok hr91 hS35) ?_
  rintro _ w93 ⟨rfl,hS94⟩
  refine ⟨_,rfl,?_⟩
  refine sR 3 (.inRegion (opsOf p107_27) [5,6,7]::.code (cd107 [1,1,1,0,1,0,1])::td64) ?_
  refine rA 217 (.agg ((encV encB) (Vector.replicate 256 false)).toArray) ((encV encB) (Vector.replicate 256 false)) hS94 ?_
  intro b95 w96 hS97
  refine r_store (c:=p107_27) (i:=6) (d:=none) (ty:=0) (t:=217) (x:=(.tmp 6)) (y:=(.tmp 30)) (b:=b95) (o:=0) (e:=217) (cs:=(encV encB) (Vector.replicate 256 false)) (v:=.agg ((encV encB) t89).toArray) (vs:=(encV encB) t89) (cs':=(encV encB) t89) hS97 (by kernel_rfl) (by kernel_rfl) (by kernel_rfl) (by kernel_rfl) (by kernel_rfl) (lenK ((len_encV len_encB) _) (by kernel_rfl)) ((one_encV one_encB) _) (by simp only [len_encV len_encB,List.length_cons,List.length_nil,List.length_append]; omega) (over_all (((len_encV len_encB) _).trans ((len_encV len_encB) _).symm)) ?_
  intro w99 hS100
  refine sR 6 (.code (cd107 [1,1,1,0,1,0,1,1])::td64) ?_
  cases t90
  ·have hp101:=ite_f hp92 rfl
   refine sR 2 td64 ?_
   have hS102:=hS100.drop
   exact rF _ (J42 (Option.some.inj hp101) _ _ hS102)
  have hp103:=ite_t hp92 rfl
  refine sR 8 td73 ?_
  obtain ⟨v104,hv105,hp106⟩:=bind_some' hp103
  have hq109 : ∀ x,Sum.inr x = v104 → x = v36:=by intro x hx; subst hx; simpa using hp106
  have J110 : ∀ (he112 : Sum.inl () = v104) (l111 : List Value) (w107 : World) (hS108 : St w0 Z (fs) w107),Runs Tryz.prog (fx 107) td70 (fill (mk 55 []) l111) w107 R:=by
   intro he112 l111 w107 hS108
   subst he112
   try dsimp only at hp106
   refine sR 4 (.code (cd107 [1,1,1,0,1,0,1,1,0,1,1])::td64) ?_
   refine rR (.int .i64 (-1)) Tryz.func107 ?_
   cases hq41 _ (Option.some.inj hp106)
   exact hR _ _ ⟨rfl,hS108⟩
  have L123 : ∀ (t114 : Int) (e118 : Sum Unit (Sum Unit Int)),strings_IndexAny.l1 a0 t89 t114 = some e118 → e118 = v104 → ∀ (l117 : List Value) (w115 : World) (hS116 : St w0 Z (xblk b95 217 ((encV encB) t89)::fs) w115),Runs Tryz.prog (fx 107) td73 (fill (mk 55 [(0,.string a0),(6,.pointer (some ⟨b95,0,none⟩)),(8,.int .i64 t114)]) l117) w115 R:=by
   refine strings_IndexAny.l1.partial_correctness a0 t89 (fun t114 e118 => e118 = v104 → ∀ (l117 : List Value) (w115 : World) (hS116 : St w0 Z (xblk b95 217 ((encV encB) t89)::fs) w115),Runs Tryz.prog (fx 107) td73 (fill (mk 55 [(0,.string a0),(6,.pointer (some ⟨b95,0,none⟩)),(8,.int .i64 t114)]) l117) w115 R) ?_
   intro rec122 ih121 t114 e118 hb120 he119 l117 w115 hS116
   have hq124 : ∀ x,Sum.inr x = e118 → x = v36:=fun x hx => hq109 x (hx.trans he119)
   refine sI 7 (.inRegion (opsOf (cd107 [1,1,1,0,1,0,1,1,0,0,1,0,0,0,0])) []::.code (cd107 [1,1,1,0,1,0,1,1,0,0,1,0,0,0,1])::.code (cd107 [1,1,1,0,1,0,1,1,0,0,1,0,0,1])::td72) 36 hb120 (fun hp127 => ?_) fun hp139 => ?_
   ·refine sR 9 (.inRegion (opsOf (cd107 [1,1,1,0,1,0,1,1,0,0,1,0,0,1,0,0,0])) [2,3]::.code p107_37::td75) ?_
    obtain ⟨g128,hp129⟩:=ite_some hp127
    refine rV (.index 9 (.tmp 39) (.tmp 40)) (.int .u8 (byt a0 t114)) (fun o ho _ => x_indexStr (kk:=.i64) (by kernel_rfl) (by kernel_rfl) (by kernel_rfl) g128.1 g128.2 ho) ?_
    obtain ⟨t130,hr131,hp132⟩:=bind_some' hp129
    refine rC (strings_asciiSet__contains.ok hr131 hS116) ?_
    rintro _ w133 ⟨rfl,hS134⟩
    refine ⟨_,rfl,?_⟩
    refine sR 1 (.code p107_37::td75) ?_
    cases t130
    ·have hp135:=ite_f hp132 rfl
     refine sR 8 td72 ?_
     refine sR 1 td73 ?_
     exact rF _ (ih121 (IntKind.i64.wrap (t114 + 1)) _ hp135 he119 _ _ hS134)
    have hp136:=ite_t hp132 rfl
    refine sR 6 (.code p107_39::td75) ?_
    refine r_isret (c:=p107_39) (by kernel_rfl) ?_
    have hS137:=hS134.drop
    refine rR (.int .i64 t114) Tryz.func107 ?_
    cases hq41 _ (hq124 _ (Option.some.inj hp136))
    exact hR _ _ ⟨rfl,hS137⟩
   refine sR 3 td70 ?_
   have hS140:=hS116.drop
   exact rF _ (J110 ((Option.some.inj hp139).trans he119) _ _ hS140)
  exact rF _ (L123 0 _ hv105 rfl _ _ hS100)

noncomputable def cd108 (p : List Nat) : Code := sub (bodyOf Tryz.f108) p
abbrev p108_13:=cd108 [1,0,1,0,0,1,1,0,0,1,1]
abbrev p108_14:=cd108 [1,0,1,0,0,1,1,0,0,1,1,0,1]
abbrev td76:List Item:=[.code (cd108 [1,1])]
abbrev td77:List Item:=.inBlock 0::td76
abbrev td78:List Item:=.inLoop (cd108 [1,0,1,0,0])::td77
abbrev td79:List Item:=.code (cd108 [1,0,1,0,0])::td78
abbrev td80:List Item:=.code (cd108 [1,0,1,0,0,1,1,1])::td78
abbrev td81:List Item:=.inBlock 1::td80
def lexis_sign.l0 (a0 : ByteArray) (t23 : Int) : Option (Sum Unit Int) :=
  (if (decide (t23 < 3)) = true then (if 0 ≤ t23 ∧ t23 < ((3 : Nat) : Int) then (strings_HasPrefix.f a0 (vget (vset (vset (vset (Vector.replicate 3 (⟨#[]⟩ : ByteArray)) 0 (⟨#[47,92]⟩ : ByteArray)) 1 (⟨#[92,47]⟩ : ByteArray)) 2 (⟨#[94,45,49]⟩ : ByteArray)) t23) >>= (fun t39 => (if t39 = true then some (.inr (((vget (vset (vset (vset (Vector.replicate 3 (⟨#[]⟩ : ByteArray)) 0 (⟨#[47,92]⟩ : ByteArray)) 1 (⟨#[92,47]⟩ : ByteArray)) 2 (⟨#[94,45,49]⟩ : ByteArray)) t23).size : Int))) else (lexis_sign.l0 a0 (IntKind.i64.wrap (t23 + 1)))))) else none) else some (.inl ()))
 partial_fixpoint
def lexis_sign.f (a0 : ByteArray) : Option Int :=
  (lexis_sign.l0 a0 0 >>= (fun | .inl () => (if 0 ≤ (0 : Int) ∧ (0 : Int) < (a0.size : Int) then (strings_IndexByte.f (⟨#[123,125,40,41,91,93,59,44,58,124,61,36,126,38,43,42,63,92]⟩ : ByteArray) (byt a0 (0 : Int)) >>= (fun t12 => (if (decide (t12 ≥ 0)) = true then some (1) else some (0)))) else none) | .inr e => some e))
theorem lexis_sign.ok {a0 : ByteArray} {q0 : Int} (hp0 : lexis_sign.f a0 = some q0) (hS0 : St w0 Z (fs) w) :
    Calls Tryz.prog 108 #[.string a0] w (fun e w' => e = .returned (.int .i64 q0) ∧ St w0 Z (fs) w'):=by
  refine calls_abs ?_; intro R hR
  unfold lexis_sign.f at hp0
  refine calls_of_runs (fn:=Tryz.f108) (c:=cd108 []) Tryz.func108 (by kernel_rfl) (al:=[.string a0]) rfl (n:=18) rfl ?_
  refine sR 12 td79 ?_
  obtain ⟨v1,hv2,hp3⟩:=bind_some' hp0
  have hq6 : ∀ x,Sum.inr x = v1 → x = q0:=by intro x hx; subst hx; simpa using hp3
  have J7 : ∀ (he9 : Sum.inl () = v1) (l8 : List Value) (w4 : World) (hS5 : St w0 Z (fs) w4),Runs Tryz.prog (fx 108) td76 (fill (mk 19 [(0,.string a0)]) l8) w4 R:=by
   intro he9 l8 w4 hS5
   subst he9
   try dsimp only at hp3
   refine sR 4 [.inRegion (opsOf (cd108 [1,1,0,0])) [1,2,3],.code (cd108 [1,1,0,1]),.code (cd108 [1,1,1])] ?_
   obtain ⟨g10,hp11⟩:=ite_some hp3
   refine rV (.index 9 (.tmp 15) (.const (.int .i64 0))) (.int .u8 (byt a0 (0 : Int))) (fun o ho _ => x_indexStr (kk:=.i64) (by kernel_rfl) (by kernel_rfl) (by kernel_rfl) g10.1 g10.2 ho) ?_
   obtain ⟨t12,hr13,hp14⟩:=bind_some' hp11
   refine rC (strings_IndexByte.ok (⟨#[123,125,40,41,91,93,59,44,58,124,61,36,126,38,43,42,63,92]⟩ : ByteArray) (byt a0 (0 : Int)) hS5 hr13) ?_
   rintro _ w15 ⟨rfl,hS16⟩
   refine ⟨_,rfl,?_⟩
   refine sI 1 [.inRegion (opsOf (cd108 [1,1,0,0])) [],.code (cd108 [1,1,0,1]),.code (cd108 [1,1,1])] 18 hp14 (fun hp19 => ?_) fun hp21 => ?_
   ·refine sR 6 [.code (cd108 [1,1,0,1,0,1]),.code (cd108 [1,1,1])] ?_
    refine rR (.int .i64 1) Tryz.func108 ?_
    cases Option.some.inj hp19
    exact hR _ _ ⟨rfl,hS16⟩
   refine sR 7 [.code (cd108 [1,1,1,1])] ?_
   refine rR (.int .i64 0) Tryz.func108 ?_
   cases Option.some.inj hp21
   exact hR _ _ ⟨rfl,hS16⟩
  have L32 : ∀ (t23 : Int) (e27 : Sum Unit Int),lexis_sign.l0 a0 t23 = some e27 → e27 = v1 → ∀ (l26 : List Value) (w24 : World) (hS25 : St w0 Z (fs) w24),Runs Tryz.prog (fx 108) td79 (fill (mk 19 [(0,.string a0),(5,.agg ((encV encS) (vset (vset (vset (Vector.replicate 3 (⟨#[]⟩ : ByteArray)) 0 (⟨#[47,92]⟩ : ByteArray)) 1 (⟨#[92,47]⟩ : ByteArray)) 2 (⟨#[94,45,49]⟩ : ByteArray))).toArray),(6,.int .i64 t23)]) l26) w24 R:=by
   refine lexis_sign.l0.partial_correctness a0 (fun t23 e27 => e27 = v1 → ∀ (l26 : List Value) (w24 : World) (hS25 : St w0 Z (fs) w24),Runs Tryz.prog (fx 108) td79 (fill (mk 19 [(0,.string a0),(5,.agg ((encV encS) (vset (vset (vset (Vector.replicate 3 (⟨#[]⟩ : ByteArray)) 0 (⟨#[47,92]⟩ : ByteArray)) 1 (⟨#[92,47]⟩ : ByteArray)) 2 (⟨#[94,45,49]⟩ : ByteArray))).toArray),(6,.int .i64 t23)]) l26) w24 R) ?_
   intro rec31 ih30 t23 e27 hb29 he28 l26 w24 hS25
   have hq33 : ∀ x,Sum.inr x = e27 → x = q0:=fun x hx => hq6 x (hx.trans he28)
   refine sI 3 (.inRegion (opsOf (cd108 [1,0,1,0,0,0])) []::.code (cd108 [1,0,1,0,0,1])::td78) 7 hb29 (fun hp36 => ?_) fun hp47 => ?_
   ·refine sR 8 (.inRegion (opsOf (cd108 [1,0,1,0,0,1,1,0,0,0])) [0,1]::.code (cd108 [1,0,1,0,0,1,1,0,0,1])::td81) ?_
    obtain ⟨g37,hp38⟩:=ite_some hp36
    refine rV (.index 220 (.tmp 5) (.tmp 6)) (.string (vget (vset (vset (vset (Vector.replicate 3 (⟨#[]⟩ : ByteArray)) 0 (⟨#[47,92]⟩ : ByteArray)) 1 (⟨#[92,47]⟩ : ByteArray)) 2 (⟨#[94,45,49]⟩ : ByteArray)) t23)) (fun o ho _ => x_indexArrV (kk:=.i64) (n:=3) (e:=9) (enc:=encS) (c:=(fun a => .string a)) (v:=(vset (vset (vset (Vector.replicate 3 (⟨#[]⟩ : ByteArray)) 0 (⟨#[47,92]⟩ : ByteArray)) 1 (⟨#[92,47]⟩ : ByteArray)) 2 (⟨#[94,45,49]⟩ : ByteArray))) (fun _ => rfl) (by kernel_rfl) (by kernel_rfl) (by kernel_rfl) (by kernel_rfl) (by kernel_rfl) g37.1 g37.2 ho) ?_
    refine sR 6 (.inRegion (opsOf (cd108 [1,0,1,0,0,1,1,0,0,1,0])) [2]::.code p108_13::td81) ?_
    obtain ⟨t39,hr40,hp41⟩:=bind_some' hp38
    refine rC (strings_HasPrefix.ok a0 (vget (vset (vset (vset (Vector.replicate 3 (⟨#[]⟩ : ByteArray)) 0 (⟨#[47,92]⟩ : ByteArray)) 1 (⟨#[92,47]⟩ : ByteArray)) 2 (⟨#[94,45,49]⟩ : ByteArray)) t23) hS25 hr40) ?_
    rintro _ w42 ⟨rfl,hS43⟩
    refine ⟨_,rfl,?_⟩
    refine sR 1 (.code p108_13::td81) ?_
    cases t39
    ·have hp44:=ite_f hp41 rfl
     refine sR 7 td78 ?_
     refine sR 1 td79 ?_
     exact rF _ (ih30 (IntKind.i64.wrap (t23 + 1)) _ hp44 he28 _ _ hS43)
    have hp45:=ite_t hp41 rfl
    refine sR 7 (.code p108_14::td81) ?_
    refine r_isret (c:=p108_14) (by kernel_rfl) ?_
    refine rR (.int .i64 ((vget (vset (vset (vset (Vector.replicate 3 (⟨#[]⟩ : ByteArray)) 0 (⟨#[47,92]⟩ : ByteArray)) 1 (⟨#[92,47]⟩ : ByteArray)) 2 (⟨#[94,45,49]⟩ : ByteArray)) t23).size : Int)) Tryz.func108 ?_
    cases hq33 _ (Option.some.inj hp45)
    exact hR _ _ ⟨rfl,hS43⟩
   refine sR 4 td76 ?_
   exact rF _ (J7 ((Option.some.inj hp47).trans he28) _ _ hS25)
  exact rF _ (L32 0 _ hv2 rfl _ _ hS0)

noncomputable def cd161 (p : List Nat) : Code := sub (bodyOf Tryz.f161) p
abbrev p161_5:=cd161 [1,1,0,0,1,1,0]
abbrev p161_7:=cd161 [1,1,0,0,1,1,1,1,0]
abbrev td82:List Item:=[.code (cd161 [1,1,1])]
abbrev td83:List Item:=.inBlock 0::td82
abbrev td84:List Item:=[.code (cd161 [1,1,1,1])]
abbrev td85:List Item:=.inRegion (opsOf (cd161 [1,1,1,0])) [4,5]::td84
abbrev td86:List Item:=.code (cd161 [1,1,0,0,1,1,1])::td83
abbrev td87:List Item:=.code (cd161 [1,1,0,0,1,1,1,1,1])::td83
abbrev td88:List Item:=iR p161_7 2 5::td87
abbrev td89:List Item:=.inRegion (opsOf p161_7) [5,6]::td87
def word_digit.f (a0 a1 : Int) : Option (Int × Bool) :=
  (if (decide (a0 ≥ 48)) = true then (if (decide (a0 ≤ 57)) = true then (if (decide ((IntKind.u64.wrap (IntKind.u8.wrap (a0 - 48))) < a1)) = true then some (((IntKind.u64.wrap (IntKind.u8.wrap (a0 - 48))),true)) else some (((IntKind.u64.wrap (IntKind.u8.wrap (a0 - 48))),false))) else (if (decide (a0 ≥ 97)) = true then (if (decide (a0 ≤ 102)) = true then (if (decide ((IntKind.u64.wrap ((IntKind.u64.wrap (IntKind.u8.wrap (a0 - 97))) + 10)) < a1)) = true then some (((IntKind.u64.wrap ((IntKind.u64.wrap (IntKind.u8.wrap (a0 - 97))) + 10)),true)) else some (((IntKind.u64.wrap ((IntKind.u64.wrap (IntKind.u8.wrap (a0 - 97))) + 10)),false))) else (if (decide (a0 ≥ 65)) = true then (if (decide (a0 ≤ 70)) = true then (if (decide ((IntKind.u64.wrap ((IntKind.u64.wrap (IntKind.u8.wrap (a0 - 65))) + 10)) < a1)) = true then some (((IntKind.u64.wrap ((IntKind.u64.wrap (IntKind.u8.wrap (a0 - 65))) + 10)),true)) else some (((IntKind.u64.wrap ((IntKind.u64.wrap (IntKind.u8.wrap (a0 - 65))) + 10)),false))) else (if (decide (99 < a1)) = true then some ((99,true)) else some ((99,false)))) else (if (decide (99 < a1)) = true then some ((99,true)) else some ((99,false))))) else (if (decide (a0 ≥ 65)) = true then (if (decide (a0 ≤ 70)) = true then (if (decide ((IntKind.u64.wrap ((IntKind.u64.wrap (IntKind.u8.wrap (a0 - 65))) + 10)) < a1)) = true then some (((IntKind.u64.wrap ((IntKind.u64.wrap (IntKind.u8.wrap (a0 - 65))) + 10)),true)) else some (((IntKind.u64.wrap ((IntKind.u64.wrap (IntKind.u8.wrap (a0 - 65))) + 10)),false))) else (if (decide (99 < a1)) = true then some ((99,true)) else some ((99,false)))) else (if (decide (99 < a1)) = true then some ((99,true)) else some ((99,false)))))) else (if (decide (a0 ≥ 97)) = true then (if (decide (a0 ≤ 102)) = true then (if (decide ((IntKind.u64.wrap ((IntKind.u64.wrap (IntKind.u8.wrap (a0 - 97))) + 10)) < a1)) = true then some (((IntKind.u64.wrap ((IntKind.u64.wrap (IntKind.u8.wrap (a0 - 97))) + 10)),true)) else some (((IntKind.u64.wrap ((IntKind.u64.wrap (IntKind.u8.wrap (a0 - 97))) + 10)),false))) else (if (decide (a0 ≥ 65)) = true then (if (decide (a0 ≤ 70)) = true then (if (decide ((IntKind.u64.wrap ((IntKind.u64.wrap (IntKind.u8.wrap (a0 - 65))) + 10)) < a1)) = true then some (((IntKind.u64.wrap ((IntKind.u64.wrap (IntKind.u8.wrap (a0 - 65))) + 10)),true)) else some (((IntKind.u64.wrap ((IntKind.u64.wrap (IntKind.u8.wrap (a0 - 65))) + 10)),false))) else (if (decide (99 < a1)) = true then some ((99,true)) else some ((99,false)))) else (if (decide (99 < a1)) = true then some ((99,true)) else some ((99,false))))) else (if (decide (a0 ≥ 65)) = true then (if (decide (a0 ≤ 70)) = true then (if (decide ((IntKind.u64.wrap ((IntKind.u64.wrap (IntKind.u8.wrap (a0 - 65))) + 10)) < a1)) = true then some (((IntKind.u64.wrap ((IntKind.u64.wrap (IntKind.u8.wrap (a0 - 65))) + 10)),true)) else some (((IntKind.u64.wrap ((IntKind.u64.wrap (IntKind.u8.wrap (a0 - 65))) + 10)),false))) else (if (decide (99 < a1)) = true then some ((99,true)) else some ((99,false)))) else (if (decide (99 < a1)) = true then some ((99,true)) else some ((99,false))))))
theorem word_digit.ok {a0 a1 q0 : Int} {q1 : Bool} (hp0 : word_digit.f a0 a1 = some (q0,q1)) (hS0 : St w0 Z (fs) w) :
    Calls Tryz.prog 161 #[.int .u8 a0,.int .u64 a1] w (fun e w' => e = .returned (.tuple #[.int .u64 q0,.bool q1]) ∧ St w0 Z (fs) w'):=by
  refine calls_abs ?_; intro R hR
  unfold word_digit.f at hp0
  refine calls_of_runs (fn:=Tryz.f161) (c:=cd161 []) Tryz.func161 (by kernel_rfl) (al:=[.int .u8 a0,.int .u64 a1]) rfl (n:=41) rfl ?_
  refine sI 15 (iR (cd161 [1,1,0,0,0]) 2 5::.code (cd161 [1,1,0,0,1])::td83) 9 hp0 (fun hp3 => ?_) fun hp80 => ?_
  ·refine sI 3 (.inRegion (opsOf (cd161 [1,1,0,0,0])) [5,6]::.code (cd161 [1,1,0,0,1])::td83) 12 hp3 (fun hp6 => ?_) fun hp13 => ?_
   ·refine sI 17 td85 42 hp6 (fun hp9 => ?_) fun hp11 => ?_
    ·refine sR 3 td84 ?_
     refine rR (.tuple #[.int .u64 (IntKind.u64.wrap (IntKind.u8.wrap (a0 - 48))),.bool true]) Tryz.func161 ?_
     cases Option.some.inj hp9
     exact hR _ _ ⟨rfl,hS0⟩
    refine sR 3 td84 ?_
    refine rR (.tuple #[.int .u64 (IntKind.u64.wrap (IntKind.u8.wrap (a0 - 48))),.bool false]) Tryz.func161 ?_
    cases Option.some.inj hp11
    exact hR _ _ ⟨rfl,hS0⟩
   refine sI 8 (iR p161_5 2 5::td86) 19 hp13 (fun hp16 => ?_) fun hp53 => ?_
   ·refine sI 3 (.inRegion (opsOf p161_5) [5,6]::td86) 22 hp16 (fun hp19 => ?_) fun hp26 => ?_
    ·refine sI 18 td85 42 hp19 (fun hp22 => ?_) fun hp24 => ?_
     ·refine sR 3 td84 ?_
      refine rR (.tuple #[.int .u64 (IntKind.u64.wrap ((IntKind.u64.wrap (IntKind.u8.wrap (a0 - 97))) + 10)),.bool true]) Tryz.func161 ?_
      cases Option.some.inj hp22
      exact hR _ _ ⟨rfl,hS0⟩
     refine sR 3 td84 ?_
     refine rR (.tuple #[.int .u64 (IntKind.u64.wrap ((IntKind.u64.wrap (IntKind.u8.wrap (a0 - 97))) + 10)),.bool false]) Tryz.func161 ?_
     cases Option.some.inj hp24
     exact hR _ _ ⟨rfl,hS0⟩
    refine sI 8 td88 30 hp26 (fun hp29 => ?_) fun hp46 => ?_
    ·refine sI 3 td89 33 hp29 (fun hp32 => ?_) fun hp39 => ?_
     ·refine sI 18 td85 42 hp32 (fun hp35 => ?_) fun hp37 => ?_
      ·refine sR 3 td84 ?_
       refine rR (.tuple #[.int .u64 (IntKind.u64.wrap ((IntKind.u64.wrap (IntKind.u8.wrap (a0 - 65))) + 10)),.bool true]) Tryz.func161 ?_
       cases Option.some.inj hp35
       exact hR _ _ ⟨rfl,hS0⟩
      refine sR 3 td84 ?_
      refine rR (.tuple #[.int .u64 (IntKind.u64.wrap ((IntKind.u64.wrap (IntKind.u8.wrap (a0 - 65))) + 10)),.bool false]) Tryz.func161 ?_
      cases Option.some.inj hp37
      exact hR _ _ ⟨rfl,hS0⟩
     refine sI 12 td85 42 hp39 (fun hp42 => ?_) fun hp44 => ?_
     ·refine sR 3 td84 ?_
      refine rR (.tuple #[.int .u64 99,.bool true]) Tryz.func161 ?_
      cases Option.some.inj hp42
      exact hR _ _ ⟨rfl,hS0⟩
     refine sR 3 td84 ?_
     refine rR (.tuple #[.int .u64 99,.bool false]) Tryz.func161 ?_
     cases Option.some.inj hp44
     exact hR _ _ ⟨rfl,hS0⟩
    refine sI 15 td85 42 hp46 (fun hp49 => ?_) fun hp51 => ?_
    ·refine sR 3 td84 ?_
     refine rR (.tuple #[.int .u64 99,.bool true]) Tryz.func161 ?_
     cases Option.some.inj hp49
     exact hR _ _ ⟨rfl,hS0⟩
    refine sR 3 td84 ?_
    refine rR (.tuple #[.int .u64 99,.bool false]) Tryz.func161 ?_
    cases Option.some.inj hp51
    exact hR _ _ ⟨rfl,hS0⟩
   refine sI 11 td88 30 hp53 (fun hp56 => ?_) fun hp73 => ?_
   ·refine sI 3 td89 33 hp56 (fun hp59 => ?_) fun hp66 => ?_
    ·refine sI 18 td85 42 hp59 (fun hp62 => ?_) fun hp64 => ?_
     ·refine sR 3 td84 ?_
      refine rR (.tuple #[.int .u64 (IntKind.u64.wrap ((IntKind.u64.wrap (IntKind.u8.wrap (a0 - 65))) + 10)),.bool true]) Tryz.func161 ?_
      cases Option.some.inj hp62
      exact hR _ _ ⟨rfl,hS0⟩
     refine sR 3 td84 ?_
     refine rR (.tuple #[.int .u64 (IntKind.u64.wrap ((IntKind.u64.wrap (IntKind.u8.wrap (a0 - 65))) + 10)),.bool false]) Tryz.func161 ?_
     cases Option.some.inj hp64
     exact hR _ _ ⟨rfl,hS0⟩
    refine sI 12 td85 42 hp66 (fun hp69 => ?_) fun hp71 => ?_
    ·refine sR 3 td84 ?_
     refine rR (.tuple #[.int .u64 99,.bool true]) Tryz.func161 ?_
     cases Option.some.inj hp69
     exact hR _ _ ⟨rfl,hS0⟩
    refine sR 3 td84 ?_
    refine rR (.tuple #[.int .u64 99,.bool false]) Tryz.func161 ?_
    cases Option.some.inj hp71
    exact hR _ _ ⟨rfl,hS0⟩
   refine sI 15 td85 42 hp73 (fun hp76 => ?_) fun hp78 => ?_
   ·refine sR 3 td84 ?_
    refine rR (.tuple #[.int .u64 99,.bool true]) Tryz.func161 ?_
    cases Option.some.inj hp76
    exact hR _ _ ⟨rfl,hS0⟩
   refine sR 3 td84 ?_
   refine rR (.tuple #[.int .u64 99,.bool false]) Tryz.func161 ?_
   cases Option.some.inj hp78
   exact hR _ _ ⟨rfl,hS0⟩
  refine sI 11 (iR p161_5 2 5::td86) 19 hp80 (fun hp83 => ?_) fun hp120 => ?_
  ·refine sI 3 (.inRegion (opsOf p161_5) [5,6]::td86) 22 hp83 (fun hp86 => ?_) fun hp93 => ?_
   ·refine sI 18 td85 42 hp86 (fun hp89 => ?_) fun hp91 => ?_
    ·refine sR 3 td84 ?_
     refine rR (.tuple #[.int .u64 (IntKind.u64.wrap ((IntKind.u64.wrap (IntKind.u8.wrap (a0 - 97))) + 10)),.bool true]) Tryz.func161 ?_
     cases Option.some.inj hp89
     exact hR _ _ ⟨rfl,hS0⟩
    refine sR 3 td84 ?_
    refine rR (.tuple #[.int .u64 (IntKind.u64.wrap ((IntKind.u64.wrap (IntKind.u8.wrap (a0 - 97))) + 10)),.bool false]) Tryz.func161 ?_
    cases Option.some.inj hp91
    exact hR _ _ ⟨rfl,hS0⟩
   refine sI 8 td88 30 hp93 (fun hp96 => ?_) fun hp113 => ?_
   ·refine sI 3 td89 33 hp96 (fun hp99 => ?_) fun hp106 => ?_
    ·refine sI 18 td85 42 hp99 (fun hp102 => ?_) fun hp104 => ?_
     ·refine sR 3 td84 ?_
      refine rR (.tuple #[.int .u64 (IntKind.u64.wrap ((IntKind.u64.wrap (IntKind.u8.wrap (a0 - 65))) + 10)),.bool true]) Tryz.func161 ?_
      cases Option.some.inj hp102
      exact hR _ _ ⟨rfl,hS0⟩
     refine sR 3 td84 ?_
     refine rR (.tuple #[.int .u64 (IntKind.u64.wrap ((IntKind.u64.wrap (IntKind.u8.wrap (a0 - 65))) + 10)),.bool false]) Tryz.func161 ?_
     cases Option.some.inj hp104
     exact hR _ _ ⟨rfl,hS0⟩
    refine sI 12 td85 42 hp106 (fun hp109 => ?_) fun hp111 => ?_
    ·refine sR 3 td84 ?_
     refine rR (.tuple #[.int .u64 99,.bool true]) Tryz.func161 ?_
     cases Option.some.inj hp109
     exact hR _ _ ⟨rfl,hS0⟩
    refine sR 3 td84 ?_
    refine rR (.tuple #[.int .u64 99,.bool false]) Tryz.func161 ?_
    cases Option.some.inj hp111
    exact hR _ _ ⟨rfl,hS0⟩
   refine sI 15 td85 42 hp113 (fun hp116 => ?_) fun hp118 => ?_
   ·refine sR 3 td84 ?_
    refine rR (.tuple #[.int .u64 99,.bool true]) Tryz.func161 ?_
    cases Option.some.inj hp116
    exact hR _ _ ⟨rfl,hS0⟩
   refine sR 3 td84 ?_
   refine rR (.tuple #[.int .u64 99,.bool false]) Tryz.func161 ?_
   cases Option.some.inj hp118
   exact hR _ _ ⟨rfl,hS0⟩
  refine sI 11 td88 30 hp120 (fun hp123 => ?_) fun hp140 => ?_
  ·refine sI 3 td89 33 hp123 (fun hp126 => ?_) fun hp133 => ?_
   ·refine sI 18 td85 42 hp126 (fun hp129 => ?_) fun hp131 => ?_
    ·refine sR 3 td84 ?_
     refine rR (.tuple #[.int .u64 (IntKind.u64.wrap ((IntKind.u64.wrap (IntKind.u8.wrap (a0 - 65))) + 10)),.bool true]) Tryz.func161 ?_
     cases Option.some.inj hp129
     exact hR _ _ ⟨rfl,hS0⟩
    refine sR 3 td84 ?_
    refine rR (.tuple #[.int .u64 (IntKind.u64.wrap ((IntKind.u64.wrap (IntKind.u8.wrap (a0 - 65))) + 10)),.bool false]) Tryz.func161 ?_
    cases Option.some.inj hp131
    exact hR _ _ ⟨rfl,hS0⟩
   refine sI 12 td85 42 hp133 (fun hp136 => ?_) fun hp138 => ?_
   ·refine sR 3 td84 ?_
    refine rR (.tuple #[.int .u64 99,.bool true]) Tryz.func161 ?_
    cases Option.some.inj hp136
    exact hR _ _ ⟨rfl,hS0⟩
   refine sR 3 td84 ?_
   refine rR (.tuple #[.int .u64 99,.bool false]) Tryz.func161 ?_
   cases Option.some.inj hp138
   exact hR _ _ ⟨rfl,hS0⟩
  refine sI 15 td85 42 hp140 (fun hp143 => ?_) fun hp145 => ?_
  ·refine sR 3 td84 ?_
   refine rR (.tuple #[.int .u64 99,.bool true]) Tryz.func161 ?_
   cases Option.some.inj hp143
   exact hR _ _ ⟨rfl,hS0⟩
  refine sR 3 td84 ?_
  refine rR (.tuple #[.int .u64 99,.bool false]) Tryz.func161 ?_
  cases Option.some.inj hp145
  exact hR _ _ ⟨rfl,hS0⟩

noncomputable def cd134 (p : List Nat) : Code := sub (bodyOf Tryz.f134) p
abbrev p134_2:=cd134 [1,1]
abbrev p134_7:=cd134 [1,1,1,1,1,1,0,0,0]
abbrev p134_16:=cd134 [1,1,1,1,1,1,1,1,1,1]
abbrev p134_18:=cd134 [1,1,1,1,1,1,1,1,1,0,1,0,1]
abbrev p134_19:=cd134 [1,1,1,1,1,1,1,1,0,1,0,1,0,0]
abbrev p134_20:=cd134 [1,1,1,1,1,1,1,1,0,1,0,1,0,1]
abbrev p134_22:=cd134 [1,1,1,1,1,1,1,1,0,1,0,1,0,1,0,1]
abbrev p134_23:=cd134 [1,1,1,1,1,1,1,1,0,1,0,1,1,1]
abbrev p134_27:=cd134 [1,1,1,1,1,1,0,0,0,1,0,0,0]
abbrev p134_28:=cd134 [1,1,1,1,1,1,0,0,0,1,0,0,1]
abbrev p134_35:=cd134 [1,1,1,1,1,1,0,0,0,1,0,0,1,1,1,1,0]
abbrev p134_37:=cd134 [1,1,1,1,0,0]
abbrev td90:List Item:=[.code (cd134 [1,1,1,1,1])]
abbrev td91:List Item:=[.code (cd134 [1,1,1,1,1,1,1])]
abbrev td92:List Item:=.inBlock 0::td91
abbrev td93:List Item:=.inLoop p134_7::td92
abbrev td94:List Item:=.code p134_7::td93
abbrev td95:List Item:=[.code (cd134 [1,1,1,1,1,1,1,1,1])]
abbrev td96:List Item:=.code (cd134 [1,1,1,1,1,1,1,1,0,1,0,1,1])::td95
abbrev td97:List Item:=.code (cd134 [1,1,1,1,1,1,0,0,0,1,1])::td93
abbrev td98:List Item:=.inBlock 1::td97
abbrev td99:List Item:=.code (cd134 [1,1,1,1,1,1,0,0,0,1,0,0,1,1,1,1,1])::td98
abbrev td100:List Item:=.code (cd134 [1,1,1,1,0,1])::td90
def word_Next.l0 (t13 : ByteArray) (t22 t60 : Int) (t61 : Bool) (t62 : Int) : Option (Int × Bool × Int) :=
  (if (decide (t62 < (t13.size : Int))) = true then (if 0 ≤ t62 ∧ t62 < (t13.size : Int) then (word_digit.f (byt t13 t62) t22 >>= (fun (t77,t78) => (if (!t78) = true then some ((t60,t61,t62)) else (bits_Mul64.f t60 t22 >>= (fun (t87,t88) => (if t61 = true then (word_Next.l0 t13 t22 (addS t88 t77) true (IntKind.i64.wrap (t62 + 1))) else (if (decide (t87 > 0)) = true then (word_Next.l0 t13 t22 (addS t88 t77) true (IntKind.i64.wrap (t62 + 1))) else (if (decide ((addC t88 t77) > 0)) = true then (word_Next.l0 t13 t22 (addS t88 t77) true (IntKind.i64.wrap (t62 + 1))) else (word_Next.l0 t13 t22 (addS t88 t77) false (IntKind.i64.wrap (t62 + 1))))))))))) else none) else some ((t60,t61,t62)))
 partial_fixpoint
def word_Next.f (a0 : ByteArray) (a1 : Int) : Option (Int × Int × Int) :=
  (if (decide (a1 < 0)) = true then some ((0,0,40)) else (if (decide (a1 > (a0.size : Int))) = true then some ((0,0,40)) else (if 0 ≤ a1 ∧ a1 ≤ (a0.size : Int) then (strings_CutPrefix.f (a0.extract a1.toNat a0.size) (⟨#[45]⟩ : ByteArray) >>= (fun (t13,t14) => (((if (decide ((t13.size : Int) > 2)) = true then (if 0 ≤ (0 : Int) ∧ (0 : Int) < (t13.size : Int) then (if ((byt t13 (0 : Int)) == 48) = true then (if 0 ≤ (1 : Int) ∧ (1 : Int) < (t13.size : Int) then (if ((bor .u8 (byt t13 (1 : Int)) 32) == 120) = true then (if 0 ≤ (2 : Int) ∧ (2 : Int) < (t13.size : Int) then (word_digit.f (byt t13 (2 : Int)) 16 >>= (fun (t119,t120) => (if t120 = true then some ((16,2)) else some ((10,0))))) else none) else some ((10,0))) else none) else some ((10,0))) else none) else some ((10,0))) : Option (Int × Int)) >>= (fun (t22,t23) => (word_Next.l0 t13 t22 0 false t23 >>= (fun (t32,t33,t34) => (if (t34 == t23) = true then some ((0,0,40)) else (if t14 = true then (if t33 = true then some ((0,0,41)) else (if (decide (t32 > 9223372036854775808)) = true then some ((0,0,41)) else some (((IntKind.i64.wrap (IntKind.u64.wrap (0 - t32))),(IntKind.i64.wrap (t34 + 1)),0)))) else (if t33 = true then some ((0,0,41)) else some (((IntKind.i64.wrap t32),t34,0))))))))))) else none)))
theorem word_Next.ok {a0 : ByteArray} {a1 q0 : Int} {q1 q2 : Int} (hp0 : word_Next.f a0 a1 = some (q0,q1,q2)) (hS0 : St w0 Z (fs) w) :
    Calls Tryz.prog 134 #[.string a0,.int .i64 a1] w (fun e w' => e = .returned (.tuple #[.int .i64 q0,.int .i64 q1,.int .i64 q2]) ∧ St w0 Z (fs) w'):=by
  refine calls_abs ?_; intro R hR
  unfold word_Next.f at hp0
  refine calls_of_runs (fn:=Tryz.f134) (c:=cd134 []) Tryz.func134 (by kernel_rfl) (al:=[.string a0,.int .i64 a1]) rfl (n:=114) rfl ?_
  refine sI 11 [iR (cd134 [1,0,0]) 2 6,.code (cd134 [1,0,1]),.code p134_2] 23 hp0 (fun hp3 => ?_) fun hp5 => ?_
  ·refine sR 14 [.code (cd134 [1,0,1,0,1]),.code p134_2] ?_
   refine rR (.tuple #[.int .i64 0,.int .i64 0,.int .i64 40]) Tryz.func134 ?_
   cases Option.some.inj hp3
   exact hR _ _ ⟨rfl,hS0⟩
  refine sI 5 [.inRegion (opsOf (cd134 [1,0,0])) [7],.code (cd134 [1,0,1]),.code p134_2] 28 hp5 (fun hp8 => ?_) fun hp10 => ?_
  ·refine sR 9 [.code (cd134 [1,0,1,0,1]),.code p134_2] ?_
   refine rR (.tuple #[.int .i64 0,.int .i64 0,.int .i64 40]) Tryz.func134 ?_
   cases Option.some.inj hp8
   exact hR _ _ ⟨rfl,hS0⟩
  refine sR 8 [iR (cd134 [1,1,0]) 2 7,.code (cd134 [1,1,1])] ?_
  obtain ⟨g11,hp12⟩:=ite_some hp10
  refine rV (.slice 9 (.tmp 31) (some (.tmp 32)) none none) (.string (a0.extract a1.toNat a0.size)) (fun o ho _ => x_cutStr_sn (k:=.i64) (by kernel_rfl) (by kernel_rfl) (by kernel_rfl) g11 ho) ?_
  obtain ⟨⟨t13,t14⟩,hr15,hp16⟩:=bind_some' hp12
  try dsimp only at hp16
  refine rC (strings_CutPrefix.ok (a0.extract a1.toNat a0.size) (⟨#[45]⟩ : ByteArray) hS0 hr15) ?_
  rintro _ w17 ⟨rfl,hS18⟩
  refine ⟨_,rfl,?_⟩
  obtain ⟨v19,hv20,hp21⟩:=bind_some' hp16
  have J26 : ∀ (t22 t23 : Int) (he28 : (t22,t23) = v19) (l27 : List Value) (w24 : World) (hS25 : St w0 Z (fs) w24),Runs Tryz.prog (fx 134) td90 (fill (mk 116 [(7,.string t13),(8,.bool t14),(9,.int .u64 t22),(10,.int .i64 t23)]) l27) w24 R:=by
   intro t22 t23 he28 l27 w24 hS25
   subst he28
   try dsimp only at hp21
   refine sR 10 td94 ?_
   obtain ⟨v29,hv30,hp31⟩:=bind_some' hp21
   have J37 : ∀ (t32 : Int) (t33 : Bool) (t34 : Int) (he39 : (t32,t33,t34) = v29) (l38 : List Value) (w35 : World) (hS36 : St w0 Z (fs) w35),Runs Tryz.prog (fx 134) td91 (fill (mk 116 [(8,.bool t14),(10,.int .i64 t23),(13,.int .u64 t32),(14,.bool t33),(15,.int .i64 t34)]) l38) w35 R:=by
    intro t32 t33 t34 he39 l38 w35 hS36
    subst he39
    try dsimp only at hp31
    refine sI 6 [.inRegion (opsOf (cd134 [1,1,1,1,1,1,1,0,0])) [],.code (cd134 [1,1,1,1,1,1,1,0,1]),.code (cd134 [1,1,1,1,1,1,1,1])] 99 hp31 (fun hp42 => ?_) fun hp44 => ?_
    ·refine sR 8 [.code (cd134 [1,1,1,1,1,1,1,0,1,0,1]),.code (cd134 [1,1,1,1,1,1,1,1])] ?_
     refine rR (.tuple #[.int .i64 0,.int .i64 0,.int .i64 40]) Tryz.func134 ?_
     cases Option.some.inj hp42
     exact hR _ _ ⟨rfl,hS36⟩
    refine sR 8 (.code (cd134 [1,1,1,1,1,1,1,1,0,1])::td95) ?_
    cases t14
    ·have hp45:=ite_f hp44 rfl
     refine sR 7 [.code (cd134 [1,1,1,1,1,1,1,1,1,0,1]),.code p134_16] ?_
     cases t33
     ·have hp46:=ite_f hp45 rfl
      refine sR 11 [.code (cd134 [1,1,1,1,1,1,1,1,1,1,1])] ?_
      refine rR (.tuple #[.int .i64 (IntKind.i64.wrap t32),.int .i64 t34,.int .i64 0]) Tryz.func134 ?_
      cases Option.some.inj hp46
      exact hR _ _ ⟨rfl,hS36⟩
     have hp48:=ite_t hp45 rfl
     refine sR 7 [.code p134_18,.code p134_16] ?_
     refine r_isret (c:=p134_18) (by kernel_rfl) ?_
     refine rR (.tuple #[.int .i64 0,.int .i64 0,.int .i64 41]) Tryz.func134 ?_
     cases Option.some.inj hp48
     exact hR _ _ ⟨rfl,hS36⟩
    have hp50:=ite_t hp44 rfl
    refine sR 12 (.inRegion (opsOf p134_19) [2,3,4]::.code p134_20::td96) ?_
    cases t33
    ·have hp51:=ite_f hp50 rfl
     refine sI 2 (.inRegion (opsOf p134_19) [4]::.code p134_20::td96) 106 hp51 (fun hp54 => ?_) fun hp56 => ?_
     ·refine sR 9 (.code p134_22::td96) ?_
      refine r_isret (c:=p134_22) (by kernel_rfl) ?_
      refine rR (.tuple #[.int .i64 0,.int .i64 0,.int .i64 41]) Tryz.func134 ?_
      cases Option.some.inj hp54
      exact hR _ _ ⟨rfl,hS36⟩
     refine sR 14 (.code p134_23::td95) ?_
     refine r_isret (c:=p134_23) (by kernel_rfl) ?_
     refine rR (.tuple #[.int .i64 (IntKind.i64.wrap (IntKind.u64.wrap (0 - t32))),.int .i64 (IntKind.i64.wrap (t34 + 1)),.int .i64 0]) Tryz.func134 ?_
     cases Option.some.inj hp56
     exact hR _ _ ⟨rfl,hS36⟩
    have hp58:=ite_t hp50 rfl
    refine sR 11 (.code p134_22::td96) ?_
    refine r_isret (c:=p134_22) (by kernel_rfl) ?_
    refine rR (.tuple #[.int .i64 0,.int .i64 0,.int .i64 41]) Tryz.func134 ?_
    cases Option.some.inj hp58
    exact hR _ _ ⟨rfl,hS36⟩
   have L71 : ∀ (t60 : Int) (t61 : Bool) (t62 : Int) (e66 : (Int × Bool × Int)),word_Next.l0 t13 t22 t60 t61 t62 = some e66 → e66 = v29 → ∀ (l65 : List Value) (w63 : World) (hS64 : St w0 Z (fs) w63),Runs Tryz.prog (fx 134) td94 (fill (mk 116 [(7,.string t13),(8,.bool t14),(9,.int .u64 t22),(10,.int .i64 t23),(13,.int .u64 t60),(14,.bool t61),(15,.int .i64 t62)]) l65) w63 R:=by
    refine word_Next.l0.partial_correctness t13 t22 (fun t60 t61 t62 e66 => e66 = v29 → ∀ (l65 : List Value) (w63 : World) (hS64 : St w0 Z (fs) w63),Runs Tryz.prog (fx 134) td94 (fill (mk 116 [(7,.string t13),(8,.bool t14),(9,.int .u64 t22),(10,.int .i64 t23),(13,.int .u64 t60),(14,.bool t61),(15,.int .i64 t62)]) l65) w63 R) ?_
    intro rec70 ih69 t60 t61 t62 e66 hb68 he67 l65 w63 hS64
    refine sI 7 (.inRegion (opsOf (cd134 [1,1,1,1,1,1,0,0,0,0,0])) []::.code (cd134 [1,1,1,1,1,1,0,0,0,0,1])::.code (cd134 [1,1,1,1,1,1,0,0,0,1])::td93) 62 hb68 (fun hp74 => ?_) fun hp103 => ?_
    ·refine sR 9 (iR p134_27 2 8::.code p134_28::td98) ?_
     obtain ⟨g75,hp76⟩:=ite_some hp74
     refine rV (.index 9 (.tmp 66) (.tmp 67)) (.int .u8 (byt t13 t62)) (fun o ho _ => x_indexStr (kk:=.i64) (by kernel_rfl) (by kernel_rfl) (by kernel_rfl) g75.1 g75.2 ho) ?_
     refine sR 1 (iR p134_27 4 6::.code p134_28::td98) ?_
     obtain ⟨⟨t77,t78⟩,hr79,hp80⟩:=bind_some' hp76
     try dsimp only at hp80
     refine rC (word_digit.ok hr79 hS64) ?_
     rintro _ w81 ⟨rfl,hS82⟩
     refine ⟨_,rfl,?_⟩
     refine sI 11 (.inRegion (opsOf (cd134 [1,1,1,1,1,1,0,0,0,1,0,0,1,0,0])) []::.code (cd134 [1,1,1,1,1,1,0,0,0,1,0,0,1,0,1])::.code (cd134 [1,1,1,1,1,1,0,0,0,1,0,0,1,1])::td98) 74 hp80 (fun hp85 => ?_) fun hp86 => ?_
     ·refine sR 3 td91 ?_
      exact rF _ (J37 t60 t61 t62 ((Option.some.inj hp85).trans he67) _ _ hS82)
     refine sR 7 (iR (cd134 [1,1,1,1,1,1,0,0,0,1,0,0,1,1,0]) 2 6::.code (cd134 [1,1,1,1,1,1,0,0,0,1,0,0,1,1,1])::td98) ?_
     obtain ⟨⟨t87,t88⟩,hr89,hp90⟩:=bind_some' hp86
     try dsimp only at hp90
     refine rC (bits_Mul64.ok t60 t22 hS82 hr89) ?_
     rintro _ w91 ⟨rfl,hS92⟩
     refine ⟨_,rfl,?_⟩
     refine sR 21 (iR p134_35 2 8::td99) ?_
     cases t61
     ·have hp93:=ite_f hp90 rfl
      refine sI 2 (iR p134_35 4 6::td99) 90 hp93 (fun hp96 => ?_) fun hp97 => ?_
      ·refine sR 17 td93 ?_
       refine sR 1 td94 ?_
       exact rF _ (ih69 (addS t88 t77) true (IntKind.i64.wrap (t62 + 1)) _ hp96 he67 _ _ hS92)
      refine sI 4 (.inRegion (opsOf p134_35) [8,9]::td99) 94 hp97 (fun hp100 => ?_) fun hp101 => ?_
      ·refine sR 13 td93 ?_
       refine sR 1 td94 ?_
       exact rF _ (ih69 (addS t88 t77) true (IntKind.i64.wrap (t62 + 1)) _ hp100 he67 _ _ hS92)
      refine sR 13 td93 ?_
      refine sR 1 td94 ?_
      exact rF _ (ih69 (addS t88 t77) false (IntKind.i64.wrap (t62 + 1)) _ hp101 he67 _ _ hS92)
     have hp102:=ite_t hp90 rfl
     refine sR 19 td93 ?_
     refine sR 1 td94 ?_
     exact rF _ (ih69 (addS t88 t77) true (IntKind.i64.wrap (t62 + 1)) _ hp102 he67 _ _ hS92)
    refine sR 3 td91 ?_
    exact rF _ (J37 t60 t61 t62 ((Option.some.inj hp103).trans he67) _ _ hS64)
   exact rF _ (L71 0 false t23 _ hv30 rfl _ _ hS25)
  refine sI 17 (iR p134_37 3 11::td100) 39 hv20 (fun hp106 => ?_) fun hp129 => ?_
  ·refine sR 2 (iR p134_37 5 9::td100) ?_
   obtain ⟨g107,hp108⟩:=ite_some hp106
   refine rV (.index 9 (.tmp 41) (.const (.int .i64 0))) (.int .u8 (byt t13 (0 : Int))) (fun o ho _ => x_indexStr (kk:=.i64) (by kernel_rfl) (by kernel_rfl) (by kernel_rfl) g107.1 g107.2 ho) ?_
   refine sI 1 (iR p134_37 7 7::td100) 43 hp108 (fun hp111 => ?_) fun hp128 => ?_
   ·refine sR 3 (iR p134_37 10 4::td100) ?_
    obtain ⟨g112,hp113⟩:=ite_some hp111
    refine rV (.index 9 (.tmp 46) (.const (.int .i64 1))) (.int .u8 (byt t13 (1 : Int))) (fun o ho _ => x_indexStr (kk:=.i64) (by kernel_rfl) (by kernel_rfl) (by kernel_rfl) g112.1 g112.2 ho) ?_
    refine sI 2 (.inRegion (opsOf p134_37) [13]::td100) 49 hp113 (fun hp116 => ?_) fun hp127 => ?_
    ·refine sR 6 (iR (cd134 [1,1,1,1,0,1,0,0]) 1 7::.code (cd134 [1,1,1,1,0,1,0,1])::td90) ?_
     obtain ⟨g117,hp118⟩:=ite_some hp116
     refine rV (.index 9 (.tmp 52) (.const (.int .i64 2))) (.int .u8 (byt t13 (2 : Int))) (fun o ho _ => x_indexStr (kk:=.i64) (by kernel_rfl) (by kernel_rfl) (by kernel_rfl) g117.1 g117.2 ho) ?_
     obtain ⟨⟨t119,t120⟩,hr121,hp122⟩:=bind_some' hp118
     try dsimp only at hp122
     refine rC (word_digit.ok hr121 hS18) ?_
     rintro _ w123 ⟨rfl,hS124⟩
     refine ⟨_,rfl,?_⟩
     refine sR 10 (.code (cd134 [1,1,1,1,0,1,0,1,1])::td90) ?_
     cases t120
     ·have hp125:=ite_f hp122 rfl
      refine sR 2 td90 ?_
      exact rF _ (J26 10 0 (Option.some.inj hp125) _ _ hS124)
     have hp126:=ite_t hp122 rfl
     refine sR 5 td90 ?_
     exact rF _ (J26 16 2 (Option.some.inj hp126) _ _ hS124)
    refine sR 4 td90 ?_
    exact rF _ (J26 10 0 (Option.some.inj hp127) _ _ hS18)
   refine sR 10 td90 ?_
   exact rF _ (J26 10 0 (Option.some.inj hp128) _ _ hS18)
  refine sR 14 td90 ?_
  exact rF _ (J26 10 0 (Option.some.inj hp129) _ _ hS18)

noncomputable def cd135 (p : List Nat) : Code := sub (bodyOf Tryz.f135) p
abbrev p135_11:=cd135 [1,1,1,1,0,0,0,1,0,0,0]
abbrev p135_12:=cd135 [1,1,1,1,0,0,0,1,0,0,1]
abbrev p135_16:=cd135 [1,1,1,0,0]
abbrev td101:List Item:=[.code (cd135 [1,1,1,1])]
abbrev td102:List Item:=[.code (cd135 [1,1,1,1,1])]
abbrev td103:List Item:=.inBlock 0::td102
abbrev td104:List Item:=.inLoop (cd135 [1,1,1,1,0,0,0])::td103
abbrev td105:List Item:=.code (cd135 [1,1,1,1,0,0,0])::td104
abbrev td106:List Item:=.inBlock 1::td104
abbrev td107:List Item:=.code (cd135 [1,1,1,1,0,0,0,1,0,1])::td106
abbrev td108:List Item:=.code (cd135 [1,1,1,0,1])::td101
def word_length.l0 (t1 : ByteArray) (t10 t30 : Int) : Option Int :=
  (if (decide (t30 < (t1.size : Int))) = true then (if 0 ≤ t30 ∧ t30 < (t1.size : Int) then (word_digit.f (byt t1 t30) t10 >>= (fun (t45,t46) => (if (!t46) = true then some (t30) else (word_length.l0 t1 t10 (IntKind.i64.wrap (t30 + 1)))))) else none) else some (t30))
 partial_fixpoint
def word_length.f (a0 : ByteArray) : Option Int :=
  (strings_CutPrefix.f a0 (⟨#[45]⟩ : ByteArray) >>= (fun (t1,t2) => (((if (decide ((t1.size : Int) > 2)) = true then (if 0 ≤ (0 : Int) ∧ (0 : Int) < (t1.size : Int) then (if ((byt t1 (0 : Int)) == 48) = true then (if 0 ≤ (1 : Int) ∧ (1 : Int) < (t1.size : Int) then (if ((bor .u8 (byt t1 (1 : Int)) 32) == 120) = true then (if 0 ≤ (2 : Int) ∧ (2 : Int) < (t1.size : Int) then (word_digit.f (byt t1 (2 : Int)) 16 >>= (fun (t71,t72) => (if t72 = true then some ((16,2)) else some ((10,0))))) else none) else some ((10,0))) else none) else some ((10,0))) else none) else some ((10,0))) : Option (Int × Int)) >>= (fun (t10,t11) => (word_length.l0 t1 t10 t11 >>= (fun t20 => (if t2 = true then some ((IntKind.i64.wrap (t20 + 1))) else some (t20))))))))
theorem word_length.ok {a0 : ByteArray} {q0 : Int} (hp0 : word_length.f a0 = some q0) (hS0 : St w0 Z (fs) w) :
    Calls Tryz.prog 135 #[.string a0] w (fun e w' => e = .returned (.int .i64 q0) ∧ St w0 Z (fs) w'):=by
  refine calls_abs ?_; intro R hR
  unfold word_length.f at hp0
  refine calls_of_runs (fn:=Tryz.f135) (c:=cd135 []) Tryz.func135 (by kernel_rfl) (al:=[.string a0]) rfl (n:=56) rfl ?_
  refine sR 7 [iR (cd135 [1,0]) 1 6,.code (cd135 [1,1])] ?_
  obtain ⟨⟨t1,t2⟩,hr3,hp4⟩:=bind_some' hp0
  try dsimp only at hp4
  refine rC (strings_CutPrefix.ok a0 (⟨#[45]⟩ : ByteArray) hS0 hr3) ?_
  rintro _ w5 ⟨rfl,hS6⟩
  refine ⟨_,rfl,?_⟩
  obtain ⟨v7,hv8,hp9⟩:=bind_some' hp4
  have J14 : ∀ (t10 t11 : Int) (he16 : (t10,t11) = v7) (l15 : List Value) (w12 : World) (hS13 : St w0 Z (fs) w12),Runs Tryz.prog (fx 135) td101 (fill (mk 57 [(3,.string t1),(4,.bool t2),(5,.int .u64 t10),(6,.int .i64 t11)]) l15) w12 R:=by
   intro t10 t11 he16 l15 w12 hS13
   subst he16
   try dsimp only at hp9
   refine sR 3 td105 ?_
   obtain ⟨v17,hv18,hp19⟩:=bind_some' hp9
   have J23 : ∀ (t20 : Int) (he25 : t20 = v17) (l24 : List Value) (w21 : World) (hS22 : St w0 Z (fs) w21),Runs Tryz.prog (fx 135) td102 (fill (mk 57 [(4,.bool t2),(6,.int .i64 t20)]) l24) w21 R:=by
    intro t20 he25 l24 w21 hS22
    subst he25
    try dsimp only at hp19
    refine sR 5 [.code (cd135 [1,1,1,1,1,0,1]),.code (cd135 [1,1,1,1,1,1])] ?_
    cases t2
    ·have hp26:=ite_f hp19 rfl
     refine sR 7 [.code (cd135 [1,1,1,1,1,1,1])] ?_
     refine rR (.int .i64 t20) Tryz.func135 ?_
     cases Option.some.inj hp26
     exact hR _ _ ⟨rfl,hS22⟩
    have hp28:=ite_t hp19 rfl
    refine sR 11 [.code (cd135 [1,1,1,1,1,1,1])] ?_
    refine rR (.int .i64 (IntKind.i64.wrap (t20 + 1))) Tryz.func135 ?_
    cases Option.some.inj hp28
    exact hR _ _ ⟨rfl,hS22⟩
   have L39 : ∀ (t30 e34 : Int),word_length.l0 t1 t10 t30 = some e34 → e34 = v17 → ∀ (l33 : List Value) (w31 : World) (hS32 : St w0 Z (fs) w31),Runs Tryz.prog (fx 135) td105 (fill (mk 57 [(3,.string t1),(4,.bool t2),(5,.int .u64 t10),(6,.int .i64 t30)]) l33) w31 R:=by
    refine word_length.l0.partial_correctness t1 t10 (fun t30 e34 => e34 = v17 → ∀ (l33 : List Value) (w31 : World) (hS32 : St w0 Z (fs) w31),Runs Tryz.prog (fx 135) td105 (fill (mk 57 [(3,.string t1),(4,.bool t2),(5,.int .u64 t10),(6,.int .i64 t30)]) l33) w31 R) ?_
    intro rec38 ih37 t30 e34 hb36 he35 l33 w31 hS32
    refine sI 7 (.inRegion (opsOf (cd135 [1,1,1,1,0,0,0,0,0])) []::.code (cd135 [1,1,1,1,0,0,0,0,1])::.code (cd135 [1,1,1,1,0,0,0,1])::td104) 40 hb36 (fun hp42 => ?_) fun hp55 => ?_
    ·refine sR 9 (iR p135_11 2 8::.code p135_12::td107) ?_
     obtain ⟨g43,hp44⟩:=ite_some hp42
     refine rV (.index 9 (.tmp 42) (.tmp 43)) (.int .u8 (byt t1 t30)) (fun o ho _ => x_indexStr (kk:=.i64) (by kernel_rfl) (by kernel_rfl) (by kernel_rfl) g43.1 g43.2 ho) ?_
     refine sR 1 (iR p135_11 4 6::.code p135_12::td107) ?_
     obtain ⟨⟨t45,t46⟩,hr47,hp48⟩:=bind_some' hp44
     try dsimp only at hp48
     refine rC (word_digit.ok hr47 hS32) ?_
     rintro _ w49 ⟨rfl,hS50⟩
     refine ⟨_,rfl,?_⟩
     refine sI 10 (.inRegion (opsOf (cd135 [1,1,1,1,0,0,0,1,0,0,1,0])) []::.code (cd135 [1,1,1,1,0,0,0,1,0,0,1,1])::td107) 50 hp48 (fun hp53 => ?_) fun hp54 => ?_
     ·refine sR 3 td102 ?_
      exact rF _ (J23 t30 ((Option.some.inj hp53).trans he35) _ _ hS50)
     refine sR 9 td104 ?_
     refine sR 1 td105 ?_
     exact rF _ (ih37 (IntKind.i64.wrap (t30 + 1)) _ hp54 he35 _ _ hS50)
    refine sR 3 td102 ?_
    exact rF _ (J23 t30 ((Option.some.inj hp55).trans he35) _ _ hS32)
   exact rF _ (L39 t11 _ hv18 rfl _ _ hS13)
  refine sI 17 (iR p135_16 3 11::td108) 18 hv8 (fun hp58 => ?_) fun hp81 => ?_
  ·refine sR 2 (iR p135_16 5 9::td108) ?_
   obtain ⟨g59,hp60⟩:=ite_some hp58
   refine rV (.index 9 (.tmp 20) (.const (.int .i64 0))) (.int .u8 (byt t1 (0 : Int))) (fun o ho _ => x_indexStr (kk:=.i64) (by kernel_rfl) (by kernel_rfl) (by kernel_rfl) g59.1 g59.2 ho) ?_
   refine sI 1 (iR p135_16 7 7::td108) 22 hp60 (fun hp63 => ?_) fun hp80 => ?_
   ·refine sR 3 (iR p135_16 10 4::td108) ?_
    obtain ⟨g64,hp65⟩:=ite_some hp63
    refine rV (.index 9 (.tmp 25) (.const (.int .i64 1))) (.int .u8 (byt t1 (1 : Int))) (fun o ho _ => x_indexStr (kk:=.i64) (by kernel_rfl) (by kernel_rfl) (by kernel_rfl) g64.1 g64.2 ho) ?_
    refine sI 2 (.inRegion (opsOf p135_16) [13]::td108) 28 hp65 (fun hp68 => ?_) fun hp79 => ?_
    ·refine sR 6 (iR (cd135 [1,1,1,0,1,0,0]) 1 7::.code (cd135 [1,1,1,0,1,0,1])::td101) ?_
     obtain ⟨g69,hp70⟩:=ite_some hp68
     refine rV (.index 9 (.tmp 31) (.const (.int .i64 2))) (.int .u8 (byt t1 (2 : Int))) (fun o ho _ => x_indexStr (kk:=.i64) (by kernel_rfl) (by kernel_rfl) (by kernel_rfl) g69.1 g69.2 ho) ?_
     obtain ⟨⟨t71,t72⟩,hr73,hp74⟩:=bind_some' hp70
     try dsimp only at hp74
     refine rC (word_digit.ok hr73 hS6) ?_
     rintro _ w75 ⟨rfl,hS76⟩
     refine ⟨_,rfl,?_⟩
     refine sR 10 (.code (cd135 [1,1,1,0,1,0,1,1])::td101) ?_
     cases t72
     ·have hp77:=ite_f hp74 rfl
      refine sR 2 td101 ?_
      exact rF _ (J14 10 0 (Option.some.inj hp77) _ _ hS76)
     have hp78:=ite_t hp74 rfl
     refine sR 5 td101 ?_
     exact rF _ (J14 16 2 (Option.some.inj hp78) _ _ hS76)
    refine sR 4 td101 ?_
    exact rF _ (J14 10 0 (Option.some.inj hp79) _ _ hS6)
   refine sR 10 td101 ?_
   exact rF _ (J14 10 0 (Option.some.inj hp80) _ _ hS6)
  refine sR 14 td101 ?_
  exact rF _ (J14 10 0 (Option.some.inj hp81) _ _ hS6)

noncomputable def cd106 (p : List Nat) : Code := sub (bodyOf Tryz.f106) p
abbrev p106_14:=cd106 [1,1,0,0,1,1,1,1,1,1,1,0,1]
abbrev td109:List Item:=[.code (cd106 [1,1,1])]
abbrev td110:List Item:=.inBlock 0::td109
def word_Parse.f (a0 : ByteArray) : Option (Int × Int) :=
  (word_Next.f a0 0 >>= (fun (t1,t2,t3) => (if (t3 == 40) = true then some ((0,t3)) else (word_length.f a0 >>= (fun t13 => (if (t13 != (a0.size : Int)) = true then some ((0,40)) else (if (t3 != 0) = true then some ((0,t3)) else (if (t2 != (a0.size : Int)) = true then some ((0,40)) else some ((t1,0))))))))))
theorem word_Parse.ok {a0 : ByteArray} {q0 q1 : Int} (hp0 : word_Parse.f a0 = some (q0,q1)) (hS0 : St w0 Z (fs) w) :
    Calls Tryz.prog 106 #[.string a0] w (fun e w' => e = .returned (.tuple #[.int .i64 q0,.int .i64 q1]) ∧ St w0 Z (fs) w'):=by
  refine calls_abs ?_; intro R hR
  unfold word_Parse.f at hp0
  refine calls_of_runs (fn:=Tryz.f106) (c:=cd106 []) Tryz.func106 (by kernel_rfl) (al:=[.string a0]) rfl (n:=32) rfl ?_
  refine sR 8 [iR (cd106 [1,0]) 1 8,.code (cd106 [1,1])] ?_
  obtain ⟨⟨t1,t2,t3⟩,hr4,hp5⟩:=bind_some' hp0
  try dsimp only at hp5
  refine rC (word_Next.ok hr4 hS0) ?_
  rintro _ w6 ⟨rfl,hS7⟩
  refine ⟨_,rfl,?_⟩
  refine sI 14 (.inRegion (opsOf (cd106 [1,1,0,0,0])) [2]::.code (cd106 [1,1,0,0,1])::td110) 15 hp5 (fun hp10 => ?_) fun hp12 => ?_
  ·refine sR 9 (.code (cd106 [1,1,0,0,1,0,1])::td110) ?_
   refine rR (.tuple #[.int .i64 0,.int .i64 t3]) Tryz.func106 ?_
   cases Option.some.inj hp10
   exact hR _ _ ⟨rfl,hS7⟩
  refine sR 6 (iR (cd106 [1,1,0,0,1,1,0]) 1 5::.code (cd106 [1,1,0,0,1,1,1])::td110) ?_
  obtain ⟨t13,hr14,hp15⟩:=bind_some' hp12
  refine rC (word_length.ok hr14 hS7) ?_
  rintro _ w16 ⟨rfl,hS17⟩
  refine ⟨_,rfl,?_⟩
  refine sI 3 (.inRegion (opsOf (cd106 [1,1,0,0,1,1,0])) [5]::.code (cd106 [1,1,0,0,1,1,1])::td110) 22 hp15 (fun hp20 => ?_) fun hp22 => ?_
  ·refine sR 8 (.code (cd106 [1,1,0,0,1,1,1,0,1])::td110) ?_
   refine rR (.tuple #[.int .i64 0,.int .i64 40]) Tryz.func106 ?_
   cases Option.some.inj hp20
   exact hR _ _ ⟨rfl,hS17⟩
  refine sI 7 (.inRegion (opsOf (cd106 [1,1,0,0,1,1,1,1,0])) [2]::.code (cd106 [1,1,0,0,1,1,1,1,1])::td110) 25 hp22 (fun hp25 => ?_) fun hp27 => ?_
  ·refine sR 9 (.code (cd106 [1,1,0,0,1,1,1,1,1,0,1])::td110) ?_
   refine rR (.tuple #[.int .i64 0,.int .i64 t3]) Tryz.func106 ?_
   cases Option.some.inj hp25
   exact hR _ _ ⟨rfl,hS17⟩
  refine sI 9 (.inRegion (opsOf (cd106 [1,1,0,0,1,1,1,1,1,1,0])) [4]::.code (cd106 [1,1,0,0,1,1,1,1,1,1,1])::td110) 31 hp27 (fun hp30 => ?_) fun hp32 => ?_
  ·refine sR 8 (.code p106_14::td110) ?_
   refine r_isret (c:=p106_14) (by kernel_rfl) ?_
   refine rR (.tuple #[.int .i64 0,.int .i64 40]) Tryz.func106 ?_
   cases Option.some.inj hp30
   exact hR _ _ ⟨rfl,hS17⟩
  refine sR 11 [.code (cd106 [1,1,1,1])] ?_
  refine rR (.tuple #[.int .i64 t1,.int .i64 0]) Tryz.func106 ?_
  cases Option.some.inj hp32
  exact hR _ _ ⟨rfl,hS17⟩

noncomputable def cd103 (p : List Nat) : Code := sub (bodyOf Tryz.f103) p
abbrev p103_12:=cd103 [1,1,1,0,0,0,0,1,0,1,1,0,1]
abbrev p103_14:=cd103 [1,1,1,0,0,0,0,1,0,1,1,1,1,0]
abbrev p103_16:=cd103 [1,1,1,0,0,0,0,1,0,1,1,1,1,1,1,1]
abbrev p103_18:=cd103 [1,1,1,0,0,0,0,1,0,1,1,0,1,1,1]
abbrev td111:List Item:=[.code (cd103 [1,0,1]),.code (cd103 [1,1])]
abbrev td112:List Item:=[.inBlock 0]
abbrev td113:List Item:=.inLoop (cd103 [1,1,1,0,0])::td112
abbrev td114:List Item:=.code (cd103 [1,1,1,0,0])::td113
abbrev td115:List Item:=.code (cd103 [1,1,1,0,0,1])::td113
abbrev td116:List Item:=.inBlock 1::td115
abbrev td117:List Item:=.inBlock 2::td116
abbrev td118:List Item:=.code (cd103 [1,1,1,0,0,0,0,1,0,1,1,1])::td117
abbrev td119:List Item:=.code (cd103 [1,1,1,0,0,0,0,1,0,1,1,1,1,1])::td117
abbrev td120:List Item:=.code p103_16::td117
def lexis_name.l0 (a0 : ByteArray) (t22 : Int) : Option Int :=
  (lexis_byteAt.f a0 t22 >>= (fun t33 => (lexis_byteAt.f a0 (IntKind.i64.wrap (t22 + 1)) >>= (fun t38 => (if (t22 == (a0.size : Int)) = true then some (t22) else (lexis_letter.f t33 >>= (fun t48 => (((if t48 = true then some (true) else (lexis_digit.f t33 >>= (fun t104 => (if t104 = true then some (true) else (if (t33 == 46) = true then some (true) else some (false)))))) : Option Bool) >>= (fun t56 => (if t56 = true then (lexis_name.l0 a0 (IntKind.i64.wrap (t22 + 1))) else (if (t33 == 43) = true then (lexis_letter.f t38 >>= (fun t66 => (if t66 = true then (lexis_name.l0 a0 (IntKind.i64.wrap (t22 + 1))) else (lexis_digit.f t38 >>= (fun t72 => (if t72 = true then (lexis_name.l0 a0 (IntKind.i64.wrap (t22 + 1))) else some (t22))))))) else (if (t33 == 45) = true then (lexis_letter.f t38 >>= (fun t85 => (if t85 = true then (lexis_name.l0 a0 (IntKind.i64.wrap (t22 + 1))) else (lexis_digit.f t38 >>= (fun t91 => (if t91 = true then (lexis_name.l0 a0 (IntKind.i64.wrap (t22 + 1))) else some (t22))))))) else some (t22)))))))))))))
 partial_fixpoint
def lexis_name.f (a0 : ByteArray) : Option Int :=
  (if (seq a0 (⟨#[]⟩ : ByteArray)) = true then some (0) else (if 0 ≤ (0 : Int) ∧ (0 : Int) < (a0.size : Int) then (lexis_letter.f (byt a0 (0 : Int)) >>= (fun t8 => (if (!t8) = true then some (0) else (lexis_name.l0 a0 1 >>= fun e => some e)))) else none))
theorem lexis_name.ok {a0 : ByteArray} {q0 : Int} (hp0 : lexis_name.f a0 = some q0) (hS0 : St w0 Z (fs) w) :
    Calls Tryz.prog 103 #[.string a0] w (fun e w' => e = .returned (.int .i64 q0) ∧ St w0 Z (fs) w'):=by
  refine calls_abs ?_; intro R hR
  unfold lexis_name.f at hp0
  refine calls_of_runs (fn:=Tryz.f103) (c:=cd103 []) Tryz.func103 (by kernel_rfl) (al:=[.string a0]) rfl (n:=51) rfl ?_
  refine sI 9 (iR (cd103 [1,0,0]) 2 6::td111) 7 hp0 (fun hp3 => ?_) fun hp5 => ?_
  ·refine sR 12 [.code (cd103 [1,0,1,0,1]),.code (cd103 [1,1])] ?_
   refine rR (.int .i64 0) Tryz.func103 ?_
   cases Option.some.inj hp3
   exact hR _ _ ⟨rfl,hS0⟩
  refine sR 2 (iR (cd103 [1,0,0]) 4 4::td111) ?_
  obtain ⟨g6,hp7⟩:=ite_some hp5
  refine rV (.index 9 (.tmp 9) (.const (.int .i64 0))) (.int .u8 (byt a0 (0 : Int))) (fun o ho _ => x_indexStr (kk:=.i64) (by kernel_rfl) (by kernel_rfl) (by kernel_rfl) g6.1 g6.2 ho) ?_
  obtain ⟨t8,hr9,hp10⟩:=bind_some' hp7
  refine rC (lexis_letter.ok hr9 hS0) ?_
  rintro _ w11 ⟨rfl,hS12⟩
  refine ⟨_,rfl,?_⟩
  refine sI 1 (.inRegion (opsOf (cd103 [1,0,0])) [7]::td111) 12 hp10 (fun hp15 => ?_) fun hp17 => ?_
  ·refine sR 7 [.code (cd103 [1,0,1,0,1]),.code (cd103 [1,1])] ?_
   refine rR (.int .i64 0) Tryz.func103 ?_
   cases Option.some.inj hp15
   exact hR _ _ ⟨rfl,hS12⟩
  refine sR 10 td114 ?_
  obtain ⟨v18,hv19,hp20⟩:=bind_some' hp17
  have hq21 : ∀ x,x = v18 → x = q0:=by intro x hx; subst hx; simpa using hp20
  have L31 : ∀ (t22 e26 : Int),lexis_name.l0 a0 t22 = some e26 → e26 = v18 → ∀ (l25 : List Value) (w23 : World) (hS24 : St w0 Z (fs) w23),Runs Tryz.prog (fx 103) td114 (fill (mk 52 [(0,.string a0),(3,.int .i64 t22)]) l25) w23 R:=by
   refine lexis_name.l0.partial_correctness a0 (fun t22 e26 => e26 = v18 → ∀ (l25 : List Value) (w23 : World) (hS24 : St w0 Z (fs) w23),Runs Tryz.prog (fx 103) td114 (fill (mk 52 [(0,.string a0),(3,.int .i64 t22)]) l25) w23 R) ?_
   intro rec30 ih29 t22 e26 hb28 he27 l25 w23 hS24
   have hq32 : ∀ x,id x = e26 → x = q0:=fun x hx => hq21 x (hx.trans he27)
   refine sR 6 (iR (cd103 [1,1,1,0,0,0,0,0]) 2 7::.code (cd103 [1,1,1,0,0,0,0,1])::td116) ?_
   obtain ⟨t33,hr34,hp35⟩:=bind_some' hb28
   refine rC (lexis_byteAt.ok hr34 hS24) ?_
   rintro _ w36 ⟨rfl,hS37⟩
   refine ⟨_,rfl,?_⟩
   refine sR 3 (.inRegion (opsOf (cd103 [1,1,1,0,0,0,0,0])) [6,7,8]::.code (cd103 [1,1,1,0,0,0,0,1])::td116) ?_
   obtain ⟨t38,hr39,hp40⟩:=bind_some' hp35
   refine rC (lexis_byteAt.ok hr39 hS37) ?_
   rintro _ w41 ⟨rfl,hS42⟩
   refine ⟨_,rfl,?_⟩
   refine sI 10 (.inRegion (opsOf (cd103 [1,1,1,0,0,0,0,1,0,0])) [4]::.code (cd103 [1,1,1,0,0,0,0,1,0,1])::td117) 28 hp40 (fun hp45 => ?_) fun hp47 => ?_
   ·refine sR 8 (.code (cd103 [1,1,1,0,0,0,0,1,0,1,0,1])::td117) ?_
    refine rR (.int .i64 t22) Tryz.func103 ?_
    cases hq32 _ (Option.some.inj hp45)
    exact hR _ _ ⟨rfl,hS42⟩
   refine sR 7 (.inRegion (opsOf (cd103 [1,1,1,0,0,0,0,1,0,1,1,0,0])) [1,2]::.code p103_12::td118) ?_
   obtain ⟨t48,hr49,hp50⟩:=bind_some' hp47
   refine rC (lexis_letter.ok hr49 hS42) ?_
   rintro _ w51 ⟨rfl,hS52⟩
   refine ⟨_,rfl,?_⟩
   refine sR 2 (.code p103_12::td118) ?_
   obtain ⟨v53,hv54,hp55⟩:=bind_some' hp50
   have J59 : ∀ (t56 : Bool) (he61 : t56 = v53) (l60 : List Value) (w57 : World) (hS58 : St w0 Z (fs) w57),Runs Tryz.prog (fx 103) td118 (fill (mk 52 [(0,.string a0),(3,.int .i64 t22),(4,.int .u8 t33),(5,.int .u8 t38),(30,.bool t56)]) l60) w57 R:=by
    intro t56 he61 l60 w57 hS58
    subst he61
    try dsimp only at hp55
    cases t56
    ·have hp62:=ite_f hp55 rfl
     refine sI 5 (iR p103_14 2 13::td119) 39 hp62 (fun hp65 => ?_) fun hp81 => ?_
     ·refine sR 6 (iR p103_14 8 7::td119) ?_
      obtain ⟨t66,hr67,hp68⟩:=bind_some' hp65
      refine rC (lexis_letter.ok hr67 hS58) ?_
      rintro _ w69 ⟨rfl,hS70⟩
      refine ⟨_,rfl,?_⟩
      refine sR 1 (iR p103_14 10 5::td119) ?_
      cases t66
      ·have hp71:=ite_f hp68 rfl
       refine sR 1 (iR p103_14 11 4::td119) ?_
       obtain ⟨t72,hr73,hp74⟩:=bind_some' hp71
       refine rC (lexis_digit.ok hr73 hS70) ?_
       rintro _ w75 ⟨rfl,hS76⟩
       refine ⟨_,rfl,?_⟩
       refine sR 4 td119 ?_
       cases t72
       ·have hp77:=ite_f hp74 rfl
        refine sR 6 td120 ?_
        refine r_isret (c:=p103_16) (by kernel_rfl) ?_
        refine rR (.int .i64 t22) Tryz.func103 ?_
        cases hq32 _ (Option.some.inj hp77)
        exact hR _ _ ⟨rfl,hS76⟩
       have hp79:=ite_t hp74 rfl
       refine sR 9 td113 ?_
       refine sR 1 td114 ?_
       exact rF _ (ih29 (IntKind.i64.wrap (t22 + 1)) _ hp79 he27 _ _ hS76)
      have hp80:=ite_t hp68 rfl
      refine sR 15 td113 ?_
      refine sR 1 td114 ?_
      exact rF _ (ih29 (IntKind.i64.wrap (t22 + 1)) _ hp80 he27 _ _ hS70)
     refine sI 3 (iR p103_14 5 10::td119) 42 hp81 (fun hp84 => ?_) fun hp100 => ?_
     ·refine sR 3 (iR p103_14 8 7::td119) ?_
      obtain ⟨t85,hr86,hp87⟩:=bind_some' hp84
      refine rC (lexis_letter.ok hr86 hS58) ?_
      rintro _ w88 ⟨rfl,hS89⟩
      refine ⟨_,rfl,?_⟩
      refine sR 1 (iR p103_14 10 5::td119) ?_
      cases t85
      ·have hp90:=ite_f hp87 rfl
       refine sR 1 (iR p103_14 11 4::td119) ?_
       obtain ⟨t91,hr92,hp93⟩:=bind_some' hp90
       refine rC (lexis_digit.ok hr92 hS89) ?_
       rintro _ w94 ⟨rfl,hS95⟩
       refine ⟨_,rfl,?_⟩
       refine sR 4 td119 ?_
       cases t91
       ·have hp96:=ite_f hp93 rfl
        refine sR 6 td120 ?_
        refine r_isret (c:=p103_16) (by kernel_rfl) ?_
        refine rR (.int .i64 t22) Tryz.func103 ?_
        cases hq32 _ (Option.some.inj hp96)
        exact hR _ _ ⟨rfl,hS95⟩
       have hp98:=ite_t hp93 rfl
       refine sR 9 td113 ?_
       refine sR 1 td114 ?_
       exact rF _ (ih29 (IntKind.i64.wrap (t22 + 1)) _ hp98 he27 _ _ hS95)
      have hp99:=ite_t hp87 rfl
      refine sR 15 td113 ?_
      refine sR 1 td114 ?_
      exact rF _ (ih29 (IntKind.i64.wrap (t22 + 1)) _ hp99 he27 _ _ hS89)
     refine sR 17 td120 ?_
     refine r_isret (c:=p103_16) (by kernel_rfl) ?_
     refine rR (.int .i64 t22) Tryz.func103 ?_
     cases hq32 _ (Option.some.inj hp100)
     exact hR _ _ ⟨rfl,hS58⟩
    have hp102:=ite_t hp55 rfl
    refine sR 9 td113 ?_
    refine sR 1 td114 ?_
    exact rF _ (ih29 (IntKind.i64.wrap (t22 + 1)) _ hp102 he27 _ _ hS58)
   cases t48
   ·have hp103:=ite_f hv54 rfl
    refine sR 4 (.inRegion (opsOf (cd103 [1,1,1,0,0,0,0,1,0,1,1,0,1,1,0])) [1,2]::.code p103_18::td118) ?_
    obtain ⟨t104,hr105,hp106⟩:=bind_some' hp103
    refine rC (lexis_digit.ok hr105 hS52) ?_
    rintro _ w107 ⟨rfl,hS108⟩
    refine ⟨_,rfl,?_⟩
    refine sR 2 (.code p103_18::td118) ?_
    cases t104
    ·have hp109:=ite_f hp106 rfl
     refine sI 4 (.inRegion (opsOf (cd103 [1,1,1,0,0,0,0,1,0,1,1,0,1,1,1,1])) [2]::td118) 36 hp109 (fun hp112 => ?_) fun hp113 => ?_
     ·refine sR 2 td118 ?_
      exact rF _ (J59 true (Option.some.inj hp112) _ _ hS108)
     refine sR 2 td118 ?_
     exact rF _ (J59 false (Option.some.inj hp113) _ _ hS108)
    have hp114:=ite_t hp106 rfl
    refine sR 2 td118 ?_
    exact rF _ (J59 true (Option.some.inj hp114) _ _ hS108)
   have hp115:=ite_t hv54 rfl
   refine sR 2 td118 ?_
   exact rF _ (J59 true (Option.some.inj hp115) _ _ hS52)
  exact rF _ (L31 1 _ hv19 rfl _ _ hS12)

def lexis_Lexer__Next.Spec (rec : ByteArray → Int → Int → Int → PErr → Option (api_Token × PErr × Int × Int × Int × PErr)) : Prop:=∀ (y0 : ByteArray) (y1 y2 y3 : Int) (y4 : PErr) (ba0 : Nat) (y5 : Value) {w0 : World} {Z : Zm} {fs : List XObj} {w : World} (_ : St w0 Z (xblk ba0 193 ([.string y0,.int .i64 y1,.int .i64 y2,.int .i64 y3,y5])::fs) w) (_ : RepE 37 78 Z y5 y4) {q0 : api_Token} {q1 : PErr} {q2 q3 q4 : Int} {q5 : PErr},rec y0 y1 y2 y3 y4 = some (q0,q1,q2,q3,q4,q5) →
    Calls Tryz.prog 68 #[.pointer (some ⟨ba0,0,none⟩)] w (fun e w' => ∃ (Qv0 : Value) (Qv1 : Value) (Z' : Zm),Zm.Le Z Z' ∧ e = .returned (.tuple #[.agg (enc_api_Token q0).toArray,Qv0]) ∧ St w0 Z' (xblk ba0 193 ([.string y0,.int .i64 q2,.int .i64 q3,.int .i64 q4,Qv1])::fs) w' ∧ RepE 37 78 Z' Qv0 q1 ∧ RepE 37 78 Z' Qv1 q5)

noncomputable def cd101 (p : List Nat) : Code := sub (bodyOf Tryz.f101) p
abbrev p101_7:=cd101 [1,1,1,1]
def lexis_Lexer__fail_2.f (rec_lexis_Lexer__Next : ByteArray → Int → Int → Int → PErr → Option (api_Token × PErr × Int × Int × Int × PErr)) (y0 : ByteArray) (y1 y2 : Int) (y3 a1 a2 : Int) : Option (api_Token × PErr × Int × Int × Int × PErr) :=
  (lexis_Place.f y0 (IntKind.i64.wrap (y1 + a1)) >>= (fun (t5,t6,t7) => (rec_lexis_Lexer__Next y0 y1 y2 y3 (.pos t5 t6 a2) >>= (fun (t26,t27,t28,t29,t30,t31) => some ((t26,t27,t28,t29,t30,t31))))))
theorem lexis_Lexer__fail_2.ok (rec_lexis_Lexer__Next : ByteArray → Int → Int → Int → PErr → Option (api_Token × PErr × Int × Int × Int × PErr)) (hrec_lexis_Lexer__Next : lexis_Lexer__Next.Spec rec_lexis_Lexer__Next) {y0 : ByteArray} {y1 y2 : Int} {y3 a1 a2 : Int} {ba0 : Nat} {q0 : api_Token} {q1 : PErr} {q2 q3 q4 : Int} {q5 : PErr} (hp0 : lexis_Lexer__fail_2.f rec_lexis_Lexer__Next y0 y1 y2 y3 a1 a2 = some (q0,q1,q2,q3,q4,q5)) (hS0 : St w0 Z (xblk ba0 193 ([.string y0,.int .i64 y1,.int .i64 y2,.int .i64 y3,.nilIface])::fs) w) :
    Calls Tryz.prog 101 #[.pointer (some ⟨ba0,0,none⟩),.int .i64 a1,.int .i64 a2] w (fun e w' => ∃ (Qv0 : Value) (Qv1 : Value) (Z' : Zm),Zm.Le Z Z' ∧ e = .returned (.tuple #[.agg (enc_api_Token q0).toArray,Qv0]) ∧ St w0 Z' (xblk ba0 193 ([.string y0,.int .i64 q2,.int .i64 q3,.int .i64 q4,Qv1])::fs) w' ∧ RepE 37 78 Z' Qv0 q1 ∧ RepE 37 78 Z' Qv1 q5):=by
  refine calls_abs ?_; intro R hR
  unfold lexis_Lexer__fail_2.f at hp0
  refine calls_of_runs (fn:=Tryz.f101) (c:=cd101 []) Tryz.func101 (by kernel_rfl) (al:=[.pointer (some ⟨ba0,0,none⟩),.int .i64 a1,.int .i64 a2]) rfl (n:=37) rfl ?_
  refine sR 2 [.inRegion (opsOf (cd101 [0])) [0,1],.code (cd101 [1])] ?_
  refine rA 75 (.agg (enc_api_Token (⟨0,(⟨#[]⟩ : ByteArray),0,0,0,0,0⟩ : api_Token)).toArray) (enc_api_Token (⟨0,(⟨#[]⟩ : ByteArray),0,0,0,0,0⟩ : api_Token)) hS0 ?_
  intro b1 w2 hS3
  refine sR 3 [.code (cd101 [1,0]),.code (cd101 [1,1])] ?_
  refine r_quiet hS3 (c:=(cd101 [1,0])) (id:=1) (by kernel_rfl) (by kernel_rfl) (by kernel_rfl) (is:=[0,1,2,3,4,5,6,7,8,9,10,11,12,13,14,15,16,17]) (by kernel_rfl) ?_
  refine qR 3 (rg 3 15) ?_
  refine qL1 9 (.tmp 14) 0 (fun w hC => (hC.blk 1 rfl)) ?_
  refine qR 3 (rg 7 11) ?_
  refine qL1 3 (.tmp 18) 1 (fun w hC => (hC.blk 1 rfl)) ?_
  refine qR 2 (rg 10 8) ?_
  obtain ⟨⟨t5,t6,t7⟩,hr8,hp9⟩:=bind_some' hp0
  try dsimp only at hp9
  refine q_call1 (c:=(cd101 [1,0])) (i:=10) (d:=(some 22)) (v:=.tuple #[.int .i64 t5,.int .i64 t6,.bool t7]) (g:=26) (args:=#[.string y0,.int .i64 (IntKind.i64.wrap (y1 + a1))]) (by kernel_rfl) (by kernel_rfl) (by kernel_rfl) (by kernel_rfl) (fun w hC => by
   refine (lexis_Place.ok hr8 hC).mono ?_
   rintro e w2 ⟨rfl,h2⟩
   have hS10:=h2.pick1
   have hS11:=hS10.pick1
   exact ⟨rfl,hS11⟩) ?_
  refine qR 7 [] ?_
  refine Qs.nil ?_
  intro w12 hS13
  refine sR 8 [iR (cd101 [1,1,0]) 6 5,.code (cd101 [1,1,1])] ?_
  refine r_box (c:=(cd101 [1,1,0])) (i:=6) (d:=(some 32)) (ty:=78) (x:=(.tmp 31)) (v:=.agg #[.int .i64 t5,.int .i64 t6,.iface 37 (.int .i64 a2)]) (t:=80) (cs:=[.int .i64 t5,.int .i64 t6,.iface 37 (.int .i64 a2)]) hS13 (by kernel_rfl) (by kernel_rfl) (by kernel_rfl) (by kernel_rfl) ?_
  intro b14 w15 hS16
  obtain ⟨Z18,hz19,hS20,hs21,-⟩:=hS16.lendblk
  refine sR 3 [.inRegion (opsOf (cd101 [1,1,0])) [10],.code (cd101 [1,1,1])] ?_
  have hS22:=hS20.pick1
  refine rS 25 (.tmp 35) (.tmp 33) 4 (.iface 78 (.pointer (some ⟨b14,0,none⟩))) [.iface 78 (.pointer (some ⟨b14,0,none⟩))] [.string y0,.int .i64 y1,.int .i64 y2,.int .i64 y3,.iface 78 (.pointer (some ⟨b14,0,none⟩))] hS22 ?_
  intro w23 hS24
  refine sR 4 [iR (cd101 [1,1,1,0]) 1 5,.code p101_7] ?_
  obtain ⟨⟨t26,t27,t28,t29,t30,t31⟩,hr34,hp35⟩:=bind_some' hp9
  try dsimp only at hp35
  refine rC (hrec_lexis_Lexer__Next y0 y1 y2 y3 (.pos t5 t6 a2) ba0 (.iface 78 (.pointer (some ⟨b14,0,none⟩))) hS24 (RepE.of_pos hs21) hr34) ?_
  rintro _ w38 ⟨Q32,Q33,Z40,hz41,rfl,hS39,hs42,hs43⟩
  refine ⟨_,rfl,?_⟩
  refine sR 2 [.inRegion (opsOf (cd101 [1,1,1,0])) [4,5],.code p101_7] ?_
  have hS44:=hS39.pick1
  refine rSA 75 (.tmp 6) (.tmp 38) (enc_api_Token t26) hS44 (one_api_Token _) ?_
  intro w45 hS46
  refine sR 2 [.code p101_7] ?_
  have hS47:=hS46.drop
  refine rRc (.tuple #[.agg (enc_api_Token t26).toArray,Q32]) (.ca 6 75 (hS46.blk 0 rfl) (.tm 7 .nil)) Tryz.func101 ?_
  cases Option.some.inj hp35
  exact hR _ _ ⟨Q32,Q33,Z40,(Zm.Le.trans hz19 hz41),rfl,hS47,hs42,hs43⟩

end
end Go.Proofs.YtboejepakdnbgaaGreatDoor.K
