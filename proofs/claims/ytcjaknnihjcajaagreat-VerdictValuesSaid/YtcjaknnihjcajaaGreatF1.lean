/- The walk, part 1: each Go function as a plain Lean function, and that its call answers as that function says. No condition. -/
import Derived.Test.YtcjaknnihjcajaaGreatE
import Derived.Test.YtcjaknnihjcajaaGreatNG
import Derived.Test.YtcjaknnihjcajaaGreatNP
import Derived.Test.YtcjaknnihjcajaaGreatNM
import Derived.Test.YtcjaknnihjcajaaGreatNQ
import Derived.Test.YtcjaknnihjcajaaGreatNI
import Derived.Test.YtcjaknnihjcajaaGreatNV
import Derived.Test.YtcjaknnihjcajaaGreatNX
import Derived.Test.YtcjaknnihjcajaaGreatNY
import Derived.Test.YtcjaknnihjcajaaGreatNC
import Derived.Test.YtcjaknnihjcajaaGreatNW
import Derived.Test.YtcjaknnihjcajaaGreatNK
import Derived.Test.YtcjaknnihjcajaaGreatKY
import Derived.Test.YtcjaknnihjcajaaGreatNT
set_option linter.unusedVariables false
set_option linter.unusedSimpArgs false
set_option maxRecDepth 100000
set_option synthInstance.maxSize 100000
set_option synthInstance.maxHeartbeats 4000000
namespace Go.Proofs.YtcjaknnihjcajaaGreat.K
open Go Go.RowKit
noncomputable section
set_option maxHeartbeats 16000000
variable {w0 : World} {Z : Zm} {fs : List XObj} {w : World}
abbrev ce_api_Prog (x : api_Prog) (A0 : Option Addr) (c0 : Nat) (A1 : Option Addr) (c1 : Nat) (A2 : Option Addr) (c2 : Nat) (A3 : Option Addr) (c3 : Nat) (A4 : Option Addr) (c4 : Nat) : List Value := [.slice A0 x.Threads.length c0, .slice A1 x.Regs.length c1, .slice A2 x.Locs.length c2, .slice A3 x.RegInit.length c3, .slice A4 x.LocInit.length c4]
abbrev ce_api_Test (x : api_Test) (A2 : Option Addr) (c2 : Nat) (A3 : Option Addr) (c3 : Nat) (A4 : Option Addr) (c4 : Nat) (A6 : Option Addr) (c6 : Nat) : List Value := [.string x.Name, .string x.Doc, .slice A2 x.Inits.length c2, .slice A3 x.Threads.length c3, .slice A4 x.Watch.length c4, .int .i64 x.Quant, .slice A6 x.Cond.length c6]
abbrev ce_prog_known (x : prog_known) (A0 : Option Addr) (c0 : Nat) (A1 : Option Addr) (c1 : Nat) : List Value := [.slice A0 x.regs.length c0, .slice A1 x.locs.length c1]

noncomputable def cd38 (p : Nat) : Code := sub (bodyOf Tryz.f38) (pth p)
abbrev td2:=tB 0 (tC (cd38 7) [])
abbrev td3:=tC (cd38 53) td2
def prog_Register.f (a0 : ByteArray) : Option Bool :=
  (((if (seq a0 (⟨#[69,65,88]⟩ : ByteArray)) = true then some (true) else (if (seq a0 (⟨#[69,66,88]⟩ : ByteArray)) = true then some (true) else (if (seq a0 (⟨#[69,67,88]⟩ : ByteArray)) = true then some (true) else (if (seq a0 (⟨#[69,68,88]⟩ : ByteArray)) = true then some (true) else (if (seq a0 (⟨#[69,83,73]⟩ : ByteArray)) = true then some (true) else (if (seq a0 (⟨#[69,68,73]⟩ : ByteArray)) = true then some (true) else (if (seq a0 (⟨#[69,66,80]⟩ : ByteArray)) = true then some (true) else (if (seq a0 (⟨#[69,83,80]⟩ : ByteArray)) = true then some (true) else (if (seq a0 (⟨#[82,56]⟩ : ByteArray)) = true then some (true) else (if (seq a0 (⟨#[82,57]⟩ : ByteArray)) = true then some (true) else (if (seq a0 (⟨#[82,49,48]⟩ : ByteArray)) = true then some (true) else (if (seq a0 (⟨#[82,49,49]⟩ : ByteArray)) = true then some (true) else (if (seq a0 (⟨#[82,49,50]⟩ : ByteArray)) = true then some (true) else (if (seq a0 (⟨#[82,49,51]⟩ : ByteArray)) = true then some (true) else (if (seq a0 (⟨#[82,49,52]⟩ : ByteArray)) = true then some (true) else (if (seq a0 (⟨#[82,49,53]⟩ : ByteArray)) = true then some (true) else some (false))))))))))))))))) : Option Bool) >>= (fun t4 => (if t4 = true then some (true) else some (false))))
theorem prog_Register.ok {a0 : ByteArray} {q0 : Bool} (hp0 : prog_Register.f a0 = some q0) (hS0 : St w0 Z (fs) w) :
    Calls Tryz.prog 38 #[.string a0] w (fun e w' => e = .returned (.bool q0) ∧ St w0 Z (fs) w'):=by
  refine calls_abs ?_; intro R hR;unfold prog_Register.f at hp0;refine c0 Tryz.func38 (cd38 1) 20 ?_;obtain ⟨v1,hv2,hp3⟩:=bind_some' hp0;have J7 : ∀ t4 (he9 : t4 = v1) l8 w5 (hS6 : St w0 Z (fs) w5),Rn Tryz.prog 38 td3 21 [(4,.bool t4)] l8 w5 R:=by
   intro t4 he9 l8 w5 hS6;subst he9;(try dsimp only at hp3);cases t4
   ·have hp10:=ite_f hp3 rfl;refine sR 7 [.code (cd38 15)] ?_;refine rR (.bool false) Tryz.func38 ?_;cases oI hp10;exact hR _ _ ⟨rfl,hS6⟩
   have hp12:=ite_t hp3 rfl;refine sR 5 (.code (cd38 213)::td2) ?_;refine rR (.bool true) Tryz.func38 ?_;cases oI hp12;exact hR _ _ ⟨rfl,hS6⟩
  refine sI 14 (.inRegion (opsOf (cd38 104)) [1]::.code (cd38 105)::td3) 5 hv2 (fun hp16 => ?_) fun hp17 => ?_
  ·refine sR 4 td3 ?_;exact rF _ (J7 _ (oI hp16) _ _ hS0)
  refine sI 6 (.inRegion (opsOf (cd38 422)) [1]::.code (cd38 423)::td3) 6 hp17 (fun hp20 => ?_) fun hp21 => ?_
  ·refine sR 4 td3 ?_;exact rF _ (J7 _ (oI hp20) _ _ hS0)
  refine sI 6 (.inRegion (opsOf (cd38 1694)) [1]::.code (cd38 1695)::td3) 7 hp21 (fun hp24 => ?_) fun hp25 => ?_
  ·refine sR 4 td3 ?_;exact rF _ (J7 _ (oI hp24) _ _ hS0)
  refine sI 6 (.inRegion (opsOf (cd38 6782)) [1]::.code (cd38 6783)::td3) 8 hp25 (fun hp28 => ?_) fun hp29 => ?_
  ·refine sR 4 td3 ?_;exact rF _ (J7 _ (oI hp28) _ _ hS0)
  refine sI 6 (.inRegion (opsOf (cd38 27134)) [1]::.code (cd38 27135)::td3) 9 hp29 (fun hp32 => ?_) fun hp33 => ?_
  ·refine sR 4 td3 ?_;exact rF _ (J7 _ (oI hp32) _ _ hS0)
  refine sI 6 (.inRegion (opsOf (cd38 108542)) [1]::.code (cd38 108543)::td3) 10 hp33 (fun hp36 => ?_) fun hp37 => ?_
  ·refine sR 4 td3 ?_;exact rF _ (J7 _ (oI hp36) _ _ hS0)
  refine sI 6 (.inRegion (opsOf (cd38 434174)) [1]::.code (cd38 434175)::td3) 11 hp37 (fun hp40 => ?_) fun hp41 => ?_
  ·refine sR 4 td3 ?_;exact rF _ (J7 _ (oI hp40) _ _ hS0)
  refine sI 6 (.inRegion (opsOf (cd38 1736702)) [1]::.code (cd38 1736703)::td3) 12 hp41 (fun hp44 => ?_) fun hp45 => ?_
  ·refine sR 4 td3 ?_;exact rF _ (J7 _ (oI hp44) _ _ hS0)
  refine sI 6 (.inRegion (opsOf (cd38 6946814)) [1]::.code (cd38 6946815)::td3) 13 hp45 (fun hp48 => ?_) fun hp49 => ?_
  ·refine sR 4 td3 ?_;exact rF _ (J7 _ (oI hp48) _ _ hS0)
  refine sI 6 (.inRegion (opsOf (cd38 27787262)) [1]::.code (cd38 27787263)::td3) 14 hp49 (fun hp52 => ?_) fun hp53 => ?_
  ·refine sR 4 td3 ?_;exact rF _ (J7 _ (oI hp52) _ _ hS0)
  refine sI 6 (.inRegion (opsOf (cd38 111149054)) [1]::.code (cd38 111149055)::td3) 15 hp53 (fun hp56 => ?_) fun hp57 => ?_
  ·refine sR 4 td3 ?_;exact rF _ (J7 _ (oI hp56) _ _ hS0)
  refine sI 6 (.inRegion (opsOf (cd38 444596222)) [1]::.code (cd38 444596223)::td3) 16 hp57 (fun hp60 => ?_) fun hp61 => ?_
  ·refine sR 4 td3 ?_;exact rF _ (J7 _ (oI hp60) _ _ hS0)
  refine sI 6 (.inRegion (opsOf (cd38 1778384894)) [1]::.code (cd38 1778384895)::td3) 17 hp61 (fun hp64 => ?_) fun hp65 => ?_
  ·refine sR 4 td3 ?_;exact rF _ (J7 _ (oI hp64) _ _ hS0)
  refine sI 6 (.inRegion (opsOf (cd38 7113539582)) [1]::.code (cd38 7113539583)::td3) 18 hp65 (fun hp68 => ?_) fun hp69 => ?_
  ·refine sR 4 td3 ?_;exact rF _ (J7 _ (oI hp68) _ _ hS0)
  refine sI 6 (.inRegion (opsOf (cd38 28454158334)) [1]::.code (cd38 28454158335)::td3) 19 hp69 (fun hp72 => ?_) fun hp73 => ?_
  ·refine sR 4 td3 ?_;exact rF _ (J7 _ (oI hp72) _ _ hS0)
  refine sI 5 (.inRegion (opsOf (cd38 56908316671)) [1]::td3) 20 hp73 (fun hp76 => ?_) fun hp77 => ?_
  ·refine sR 2 td3 ?_;exact rF _ (J7 _ (oI hp76) _ _ hS0)
  refine sR 2 td3 ?_;exact rF _ (J7 _ (oI hp77) _ _ hS0)

noncomputable def cd37 (p : Nat) : Code := sub (bodyOf Tryz.f37) (pth p)
abbrev p37_8:=cd37 3378
abbrev td4:=tC (cd37 7) []
abbrev td6:List Item:=.inLoop (cd37 52)::(tB 0 td4)
abbrev td7:=tC (cd37 52) td6
abbrev td9:=tB 1 (tC (cd37 423) td6)
abbrev td10:=tC (cd37 3379) td9
abbrev td11:=tC (cd37 13517) td9
def prog_rises.l0 (a0 : List ByteArray) (t11 : Int) : Option (Sum Unit Bool) :=
  (if (decide (t11 < (a0.length : Int))) = true then (if 0 ≤ t11 ∧ t11 < (a0.length : Int) then (if (decide (t11 > 0)) = true then (if 0 ≤ (IntKind.i64.wrap (t11 - 1)) ∧ (IntKind.i64.wrap (t11 - 1)) < (a0.length : Int) then (if (!Op.bytesLess (gt a0 (IntKind.i64.wrap (t11 - 1))).toList (gt a0 t11).toList) = true then some (.inr (false)) else (prog_Register.f (gt a0 t11) >>= (fun t45 => (if (!t45) = true then some (.inr (false)) else (prog_rises.l0 a0 (IntKind.i64.wrap (t11 + 1))))))) else none) else (prog_Register.f (gt a0 t11) >>= (fun t56 => (if (!t56) = true then some (.inr (false)) else (prog_rises.l0 a0 (IntKind.i64.wrap (t11 + 1))))))) else none) else some (.inl ()))
 partial_fixpoint
def prog_rises.f (a0 : List ByteArray) : Option Bool :=
  (prog_rises.l0 a0 0 >>= (fun | .inl () => some (true) | .inr e => some e))
theorem prog_rises.ok {a0 : List ByteArray} {Aa0 : Option Addr} {ca0 : Nat} {q0 : Bool} (hp0 : prog_rises.f a0 = some q0) (hS0 : St w0 Z (fs) w) (ha0 : SlZ (flat encS) 1 Z Aa0 ca0 a0) :
    Calls Tryz.prog 37 #[.slice Aa0 a0.length ca0,.func (.func 38) #[] #[]] w (fun e w' => e = .returned (.bool q0) ∧ St w0 Z (fs) w'):=by
  refine calls_abs ?_; intro R hR;unfold prog_rises.f at hp0;refine c0 Tryz.func37 (cd37 1) 30 ?_;refine sR 13 td7 ?_;obtain ⟨v1,hv2,hp3⟩:=bind_some' hp0;have hq6 : ∀ x,Sum.inr x = v1 → x = q0:=by intro x hx; subst hx; simpa using hp3
  have J7 : ∀ (he9 : Sum.inl () = v1) l8 w4 (hS5 : St w0 Z (fs) w4),Rn Tryz.prog 37 td4 32 [] l8 w4 R:=by
   intro he9 l8 w4 hS5;subst he9;(try dsimp only at hp3);refine sR 4 [.code (cd37 15)] ?_;refine rR (.bool true) Tryz.func37 ?_;cases oI hp3;exact hR _ _ ⟨rfl,hS5⟩
  have L20 : ∀ t11 e15,prog_rises.l0 a0 t11 = some e15 → e15 = v1 → ∀ l14 w12 (hS13 : St w0 Z (fs) w12),Rn Tryz.prog 37 td7 32 [(0,.slice Aa0 a0.length ca0),(1,.func (.func 38) #[] #[]),(7,.slice Aa0 a0.length ca0),(8,.int .i64 (a0.length : Int)),(9,.int .i64 t11)] l14 w12 R:=by
   refine prog_rises.l0.partial_correctness a0 (fun t11 e15 => e15 = v1 → ∀ (l14 : List Value) (w12 : World) (hS13 : St w0 Z (fs) w12),Rn Tryz.prog 37 td7 32 [(0,.slice Aa0 a0.length ca0),(1,.func (.func 38) #[] #[]),(7,.slice Aa0 a0.length ca0),(8,.int .i64 (a0.length : Int)),(9,.int .i64 t11)] l14 w12 R) ?_;intro rec19 ih18 t11 e15 hb17 he16 l14 w12 hS13;have hq21 : ∀ x,Sum.inr x = e15 → x = q0:=fun x hx => hq6 x (hx.trans he16);refine sI 3 (.inRegion (opsOf (cd37 104)) []::.code (cd37 105)::td6) 10 hb17 (fun hp24 => ?_) fun hp66 => ?_
   ·refine sR 9 (iR (cd37 1688) 1 4::.code (cd37 1689)::td9) ?_;obtain ⟨g25,hp26⟩:=ite_some hp24;obtain ⟨b27,p28,hA29,hc30⟩:=ha0.atF g25.1 g25.2;refine rX 24 1 (.tmp 7) (.tmp 9) hA29 g25 ?_;refine rL1 9 (.tmp 12) 0 (hc30.cells hS13) ?_;refine sI 7 (iR p37_8 2 15::td10) 15 hp26 (fun hp33 => ?_) fun hp55 => ?_
    ·refine sR 4 (iR p37_8 6 11::td10) ?_;obtain ⟨g34,hp35⟩:=ite_some hp33;obtain ⟨b36,p37,hA38,hc39⟩:=ha0.atF g34.1 g34.2;refine rX 24 1 (.tmp 17) (.tmp 19) hA38 g34 ?_;refine rL1 9 (.tmp 20) 0 (hc39.cells hS13) ?_;refine sI 2 (iR p37_8 10 7::td10) 23 hp35 (fun hp42 => ?_) fun hp44 => ?_
     ·refine sR 13 td11 ?_;refine rI (cd37 13517) ?_;refine rR (.bool false) Tryz.func37 ?_;cases hq21 _ (oI hp42);exact hR _ _ ⟨rfl,hS13⟩
     refine sR 4 (.inRegion (opsOf p37_8) [14,15,16]::td10) ?_;obtain ⟨t45,hr46,hp47⟩:=bind_some' hp44;refine rC (prog_Register.ok hr46 hS13) ?_;rintro _ w48 ⟨rfl,hS49⟩;refine ⟨_,rfl,?_⟩;refine sI 1 (.inRegion (opsOf p37_8) [16]::td10) 29 hp47 (fun hp52 => ?_) fun hp54 => ?_
     ·refine sR 7 td11 ?_;refine rI (cd37 13517) ?_;refine rR (.bool false) Tryz.func37 ?_;cases hq21 _ (oI hp52);exact hR _ _ ⟨rfl,hS49⟩
     refine sR 9 td6 ?_;refine sR 1 td7 ?_;exact rF _ (ih18 _ _ hp54 he16 _ _ hS49)
    refine sR 12 (.inRegion (opsOf p37_8) [14,15,16]::td10) ?_;obtain ⟨t56,hr57,hp58⟩:=bind_some' hp55;refine rC (prog_Register.ok hr57 hS13) ?_;rintro _ w59 ⟨rfl,hS60⟩;refine ⟨_,rfl,?_⟩;refine sI 1 (.inRegion (opsOf p37_8) [16]::td10) 29 hp58 (fun hp63 => ?_) fun hp65 => ?_
    ·refine sR 7 td11 ?_;refine rI (cd37 13517) ?_;refine rR (.bool false) Tryz.func37 ?_;cases hq21 _ (oI hp63);exact hR _ _ ⟨rfl,hS60⟩
    refine sR 9 td6 ?_;refine sR 1 td7 ?_;exact rF _ (ih18 _ _ hp65 he16 _ _ hS60)
   refine sR 4 td4 ?_;exact rF _ (J7 ((oI hp66).trans he16) _ _ hS13)
  exact rF _ (L20 _ _ hv2 rfl _ _ hS0)

noncomputable def cd93 (p : Nat) : Code := sub (bodyOf Tryz.f93) (pth p)
abbrev p93_0:=cd93 6
abbrev td12:=tC (cd93 7) []
abbrev td13:List Item:=.inRegion (opsOf p93_0) [17,18]::td12
def lexis_letter.f (a0 : Int) : Option Bool :=
  (if (decide (a0 ≥ 97)) = true then (if (decide (a0 ≤ 122)) = true then some (true) else (if (decide (a0 ≥ 65)) = true then (if (decide (a0 ≤ 90)) = true then some (true) else (if (a0 == 95) = true then some (true) else some (false))) else (if (a0 == 95) = true then some (true) else some (false)))) else (if (decide (a0 ≥ 65)) = true then (if (decide (a0 ≤ 90)) = true then some (true) else (if (a0 == 95) = true then some (true) else some (false))) else (if (a0 == 95) = true then some (true) else some (false))))
theorem lexis_letter.ok {a0 : Int} {q0 : Bool} (hp0 : lexis_letter.f a0 = some q0) (hS0 : St w0 Z (fs) w) :
    Calls Tryz.prog 93 #[.int .u8 a0] w (fun e w' => e = .returned (.bool q0) ∧ St w0 Z (fs) w'):=by
  refine calls_abs ?_; intro R hR;unfold lexis_letter.f at hp0;refine c0 Tryz.func93 (cd93 1) 20 ?_;refine sI 8 (iR p93_0 2 17::td12) 4 hp0 (fun hp3 => ?_) fun hp30 => ?_
  ·refine sI 3 (iR p93_0 5 14::td12) 7 hp3 (fun hp6 => ?_) fun hp8 => ?_
   ·refine sR 15 td12 ?_;refine rR (.bool true) Tryz.func93 ?_;cases oI hp6;exact hR _ _ ⟨rfl,hS0⟩
   refine sI 4 (iR p93_0 9 10::td12) 11 hp8 (fun hp11 => ?_) fun hp23 => ?_
   ·refine sI 3 (iR p93_0 12 7::td12) 14 hp11 (fun hp14 => ?_) fun hp16 => ?_
    ·refine sR 8 td12 ?_;refine rR (.bool true) Tryz.func93 ?_;cases oI hp14;exact hR _ _ ⟨rfl,hS0⟩
    refine sI 5 td13 19 hp16 (fun hp19 => ?_) fun hp21 => ?_
    ·refine sR 3 td12 ?_;refine rR (.bool true) Tryz.func93 ?_;cases oI hp19;exact hR _ _ ⟨rfl,hS0⟩
    refine sR 3 td12 ?_;refine rR (.bool false) Tryz.func93 ?_;cases oI hp21;exact hR _ _ ⟨rfl,hS0⟩
   refine sI 8 td13 19 hp23 (fun hp26 => ?_) fun hp28 => ?_
   ·refine sR 3 td12 ?_;refine rR (.bool true) Tryz.func93 ?_;cases oI hp26;exact hR _ _ ⟨rfl,hS0⟩
   refine sR 3 td12 ?_;refine rR (.bool false) Tryz.func93 ?_;cases oI hp28;exact hR _ _ ⟨rfl,hS0⟩
  refine sI 7 (iR p93_0 9 10::td12) 11 hp30 (fun hp33 => ?_) fun hp45 => ?_
  ·refine sI 3 (iR p93_0 12 7::td12) 14 hp33 (fun hp36 => ?_) fun hp38 => ?_
   ·refine sR 8 td12 ?_;refine rR (.bool true) Tryz.func93 ?_;cases oI hp36;exact hR _ _ ⟨rfl,hS0⟩
   refine sI 5 td13 19 hp38 (fun hp41 => ?_) fun hp43 => ?_
   ·refine sR 3 td12 ?_;refine rR (.bool true) Tryz.func93 ?_;cases oI hp41;exact hR _ _ ⟨rfl,hS0⟩
   refine sR 3 td12 ?_;refine rR (.bool false) Tryz.func93 ?_;cases oI hp43;exact hR _ _ ⟨rfl,hS0⟩
  refine sI 8 td13 19 hp45 (fun hp48 => ?_) fun hp50 => ?_
  ·refine sR 3 td12 ?_;refine rR (.bool true) Tryz.func93 ?_;cases oI hp48;exact hR _ _ ⟨rfl,hS0⟩
  refine sR 3 td12 ?_;refine rR (.bool false) Tryz.func93 ?_;cases oI hp50;exact hR _ _ ⟨rfl,hS0⟩

noncomputable def cd94 (p : Nat) : Code := sub (bodyOf Tryz.f94) (pth p)
def lexis_byteAt.f (a0 : ByteArray) (a1 : Int) : Option Int :=
  (if (decide (a1 < (a0.size : Int))) = true then (if 0 ≤ a1 ∧ a1 < (a0.size : Int) then some ((byt a0 a1)) else none) else some (0))
theorem lexis_byteAt.ok {a0 : ByteArray} {a1 q0 : Int} (hp0 : lexis_byteAt.f a0 a1 = some q0) (hS0 : St w0 Z (fs) w) :
    Calls Tryz.prog 94 #[.string a0,.int .i64 a1] w (fun e w' => e = .returned (.int .u8 q0) ∧ St w0 Z (fs) w'):=by
  refine calls_abs ?_; intro R hR;unfold lexis_byteAt.f at hp0;refine c0 Tryz.func94 (cd94 1) 10 ?_;refine sI 11 [.inRegion (opsOf (cd94 12)) [],.code (cd94 13),.code (cd94 7)] 8 hp0 (fun hp3 => ?_) fun hp7 => ?_
  ·refine sR 6 [.inRegion (opsOf (cd94 52)) [2,3],.code (cd94 53),.code (cd94 7)] ?_;obtain ⟨g4,hp5⟩:=ite_some hp3;refine rV (.index 9 (.tmp 9) (.tmp 10)) (.int .u8 (byt a0 a1)) (fun o ho _ => x_indexStr (kk:=.i64) (by kernel_rfl) (by kernel_rfl) (by kernel_rfl) g4.1 g4.2 ho) ?_;refine sR 2 [.code (cd94 53),.code (cd94 7)] ?_;refine rR (.int .u8 (byt a0 a1)) Tryz.func94 ?_;cases oI hp5;exact hR _ _ ⟨rfl,hS0⟩
  refine sR 7 [.code (cd94 15)] ?_;refine rR (.int .u8 0) Tryz.func94 ?_;cases oI hp7;exact hR _ _ ⟨rfl,hS0⟩

noncomputable def cd95 (p : Nat) : Code := sub (bodyOf Tryz.f95) (pth p)
def lexis_digit.f (a0 : Int) : Option Bool :=
  (if (decide (a0 ≥ 48)) = true then (if (decide (a0 ≤ 57)) = true then some (true) else some (false)) else some (false))
theorem lexis_digit.ok {a0 : Int} {q0 : Bool} (hp0 : lexis_digit.f a0 = some q0) (hS0 : St w0 Z (fs) w) :
    Calls Tryz.prog 95 #[.int .u8 a0] w (fun e w' => e = .returned (.bool q0) ∧ St w0 Z (fs) w'):=by
  refine calls_abs ?_; intro R hR;unfold lexis_digit.f at hp0;refine c0 Tryz.func95 (cd95 1) 8 ?_;refine sI 8 [iR (cd95 6) 2 5,.code (cd95 7)] 4 hp0 (fun hp3 => ?_) fun hp10 => ?_
  ·refine sI 3 [.inRegion (opsOf (cd95 6)) [5,6],.code (cd95 7)] 7 hp3 (fun hp6 => ?_) fun hp8 => ?_
   ·refine sR 3 [.code (cd95 7)] ?_;refine rR (.bool true) Tryz.func95 ?_;cases oI hp6;exact hR _ _ ⟨rfl,hS0⟩
   refine sR 3 [.code (cd95 7)] ?_;refine rR (.bool false) Tryz.func95 ?_;cases oI hp8;exact hR _ _ ⟨rfl,hS0⟩
  refine sR 6 [.code (cd95 7)] ?_;refine rR (.bool false) Tryz.func95 ?_;cases oI hp10;exact hR _ _ ⟨rfl,hS0⟩

noncomputable def cd68 (p : Nat) : Code := sub (bodyOf Tryz.f68) (pth p)
abbrev p68_14:=cd68 30814
abbrev p68_16:=cd68 123263
abbrev td14:List Item:=[.code (cd68 13),.code (cd68 7)]
abbrev td16:List Item:=.inLoop (cd68 60)::[.inBlock 0]
abbrev td17:=tC (cd68 60) td16
abbrev td19:=tB 1 (tC (cd68 121) td16)
abbrev td20:=tB 2 td19
abbrev td21:=tC (cd68 7703) td20
abbrev td22:=tC (cd68 30815) td20
abbrev td23:=tC p68_16 td20
def lexis_name.l0 (a0 : ByteArray) (t22 : Int) : Option Int :=
  (lexis_byteAt.f a0 t22 >>= (fun t33 => (lexis_byteAt.f a0 (IntKind.i64.wrap (t22 + 1)) >>= (fun t38 => (if (t22 == (a0.size : Int)) = true then some (t22) else (lexis_letter.f t33 >>= (fun t48 => (((if t48 = true then some (true) else (lexis_digit.f t33 >>= (fun t104 => (if t104 = true then some (true) else (if (t33 == 46) = true then some (true) else some (false)))))) : Option Bool) >>= (fun t56 => (if t56 = true then (lexis_name.l0 a0 (IntKind.i64.wrap (t22 + 1))) else (if (t33 == 43) = true then (lexis_letter.f t38 >>= (fun t66 => (if t66 = true then (lexis_name.l0 a0 (IntKind.i64.wrap (t22 + 1))) else (lexis_digit.f t38 >>= (fun t72 => (if t72 = true then (lexis_name.l0 a0 (IntKind.i64.wrap (t22 + 1))) else some (t22))))))) else (if (t33 == 45) = true then (lexis_letter.f t38 >>= (fun t85 => (if t85 = true then (lexis_name.l0 a0 (IntKind.i64.wrap (t22 + 1))) else (lexis_digit.f t38 >>= (fun t91 => (if t91 = true then (lexis_name.l0 a0 (IntKind.i64.wrap (t22 + 1))) else some (t22))))))) else some (t22)))))))))))))
 partial_fixpoint
def lexis_name.f (a0 : ByteArray) : Option Int :=
  (if (seq a0 (⟨#[]⟩ : ByteArray)) = true then some (0) else (if 0 ≤ (0 : Int) ∧ (0 : Int) < (a0.size : Int) then (lexis_letter.f (byt a0 (0 : Int)) >>= (fun t8 => (if (!t8) = true then some (0) else (lexis_name.l0 a0 1 >>= fun e => some e)))) else none))
theorem lexis_name.ok {a0 : ByteArray} {q0 : Int} (hp0 : lexis_name.f a0 = some q0) (hS0 : St w0 Z (fs) w) :
    Calls Tryz.prog 68 #[.string a0] w (fun e w' => e = .returned (.int .i64 q0) ∧ St w0 Z (fs) w'):=by
  refine calls_abs ?_; intro R hR;unfold lexis_name.f at hp0;refine c0 Tryz.func68 (cd68 1) 51 ?_;refine sI 9 (iR (cd68 12) 2 6::td14) 7 hp0 (fun hp3 => ?_) fun hp5 => ?_
  ·refine sR 12 [.code (cd68 53),.code (cd68 7)] ?_;refine rR (.int .i64 0) Tryz.func68 ?_;cases oI hp3;exact hR _ _ ⟨rfl,hS0⟩
  refine sR 2 (iR (cd68 12) 4 4::td14) ?_;obtain ⟨g6,hp7⟩:=ite_some hp5;refine rV (.index 9 (.tmp 9) (.const (.int .i64 0))) (.int .u8 (byt a0 (0 : Int))) (fun o ho _ => x_indexStr (kk:=.i64) (by kernel_rfl) (by kernel_rfl) (by kernel_rfl) g6.1 g6.2 ho) ?_;obtain ⟨t8,hr9,hp10⟩:=bind_some' hp7;refine rC (lexis_letter.ok hr9 hS0) ?_;rintro _ w11 ⟨rfl,hS12⟩;refine ⟨_,rfl,?_⟩;refine sI 1 (.inRegion (opsOf (cd68 12)) [7]::td14) 12 hp10 (fun hp15 => ?_) fun hp17 => ?_
  ·refine sR 7 [.code (cd68 53),.code (cd68 7)] ?_;refine rR (.int .i64 0) Tryz.func68 ?_;cases oI hp15;exact hR _ _ ⟨rfl,hS12⟩
  refine sR 10 td17 ?_;obtain ⟨v18,hv19,hp20⟩:=bind_some' hp17;have hq21 : ∀ x,x = v18 → x = q0:=by intro x hx; subst hx; simpa using hp20
  have L31 : ∀ t22 e26,lexis_name.l0 a0 t22 = some e26 → e26 = v18 → ∀ l25 w23 (hS24 : St w0 Z (fs) w23),Rn Tryz.prog 68 td17 52 [(0,.string a0),(3,.int .i64 t22)] l25 w23 R:=by
   refine lexis_name.l0.partial_correctness a0 (fun t22 e26 => e26 = v18 → ∀ (l25 : List Value) (w23 : World) (hS24 : St w0 Z (fs) w23),Rn Tryz.prog 68 td17 52 [(0,.string a0),(3,.int .i64 t22)] l25 w23 R) ?_;intro rec30 ih29 t22 e26 hb28 he27 l25 w23 hS24;have hq32 : ∀ x,id x = e26 → x = q0:=fun x hx => hq21 x (hx.trans he27);refine sR 6 (iR (cd68 480) 2 7::.code (cd68 481)::td19) ?_;obtain ⟨t33,hr34,hp35⟩:=bind_some' hb28;refine rC (lexis_byteAt.ok hr34 hS24) ?_;rintro _ w36 ⟨rfl,hS37⟩;refine ⟨_,rfl,?_⟩;refine sR 3 (.inRegion (opsOf (cd68 480)) [6,7,8]::.code (cd68 481)::td19) ?_;obtain ⟨t38,hr39,hp40⟩:=bind_some' hp35;refine rC (lexis_byteAt.ok hr39 hS37) ?_;rintro _ w41 ⟨rfl,hS42⟩;refine ⟨_,rfl,?_⟩;refine sI 10 (.inRegion (opsOf (cd68 1924)) [4]::.code (cd68 1925)::td20) 28 hp40 (fun hp45 => ?_) fun hp47 => ?_
   ·refine sR 8 (.code (cd68 7701)::td20) ?_;refine rR (.int .i64 t22) Tryz.func68 ?_;cases hq32 _ (oI hp45);exact hR _ _ ⟨rfl,hS42⟩
   refine sR 7 (.inRegion (opsOf (cd68 15404)) [1,2]::.code (cd68 15405)::td21) ?_;obtain ⟨t48,hr49,hp50⟩:=bind_some' hp47;refine rC (lexis_letter.ok hr49 hS42) ?_;rintro _ w51 ⟨rfl,hS52⟩;refine ⟨_,rfl,?_⟩;refine sR 2 (.code (cd68 15405)::td21) ?_;obtain ⟨v53,hv54,hp55⟩:=bind_some' hp50;have J59 : ∀ t56 (he61 : t56 = v53) l60 w57 (hS58 : St w0 Z (fs) w57),Rn Tryz.prog 68 td21 52 [(0,.string a0),(3,.int .i64 t22),(4,.int .u8 t33),(5,.int .u8 t38),(30,.bool t56)] l60 w57 R:=by
    intro t56 he61 l60 w57 hS58;subst he61;(try dsimp only at hp55);cases t56
    ·have hp62:=ite_f hp55 rfl;refine sI 5 (iR p68_14 2 13::td22) 39 hp62 (fun hp65 => ?_) fun hp81 => ?_
     ·refine sR 6 (iR p68_14 8 7::td22) ?_;obtain ⟨t66,hr67,hp68⟩:=bind_some' hp65;refine rC (lexis_letter.ok hr67 hS58) ?_;rintro _ w69 ⟨rfl,hS70⟩;refine ⟨_,rfl,?_⟩;refine sR 1 (iR p68_14 10 5::td22) ?_;cases t66
      ·have hp71:=ite_f hp68 rfl;refine sR 1 (iR p68_14 11 4::td22) ?_;obtain ⟨t72,hr73,hp74⟩:=bind_some' hp71;refine rC (lexis_digit.ok hr73 hS70) ?_;rintro _ w75 ⟨rfl,hS76⟩;refine ⟨_,rfl,?_⟩;refine sR 4 td22 ?_;cases t72
       ·have hp77:=ite_f hp74 rfl;refine sR 6 td23 ?_;refine rI p68_16 ?_;refine rR (.int .i64 t22) Tryz.func68 ?_;cases hq32 _ (oI hp77);exact hR _ _ ⟨rfl,hS76⟩
       have hp79:=ite_t hp74 rfl;refine sR 9 td16 ?_;refine sR 1 td17 ?_;exact rF _ (ih29 _ _ hp79 he27 _ _ hS76)
      have hp80:=ite_t hp68 rfl;refine sR 15 td16 ?_;refine sR 1 td17 ?_;exact rF _ (ih29 _ _ hp80 he27 _ _ hS70)
     refine sI 3 (iR p68_14 5 10::td22) 42 hp81 (fun hp84 => ?_) fun hp100 => ?_
     ·refine sR 3 (iR p68_14 8 7::td22) ?_;obtain ⟨t85,hr86,hp87⟩:=bind_some' hp84;refine rC (lexis_letter.ok hr86 hS58) ?_;rintro _ w88 ⟨rfl,hS89⟩;refine ⟨_,rfl,?_⟩;refine sR 1 (iR p68_14 10 5::td22) ?_;cases t85
      ·have hp90:=ite_f hp87 rfl;refine sR 1 (iR p68_14 11 4::td22) ?_;obtain ⟨t91,hr92,hp93⟩:=bind_some' hp90;refine rC (lexis_digit.ok hr92 hS89) ?_;rintro _ w94 ⟨rfl,hS95⟩;refine ⟨_,rfl,?_⟩;refine sR 4 td22 ?_;cases t91
       ·have hp96:=ite_f hp93 rfl;refine sR 6 td23 ?_;refine rI p68_16 ?_;refine rR (.int .i64 t22) Tryz.func68 ?_;cases hq32 _ (oI hp96);exact hR _ _ ⟨rfl,hS95⟩
       have hp98:=ite_t hp93 rfl;refine sR 9 td16 ?_;refine sR 1 td17 ?_;exact rF _ (ih29 _ _ hp98 he27 _ _ hS95)
      have hp99:=ite_t hp87 rfl;refine sR 15 td16 ?_;refine sR 1 td17 ?_;exact rF _ (ih29 _ _ hp99 he27 _ _ hS89)
     refine sR 17 td23 ?_;refine rI p68_16 ?_;refine rR (.int .i64 t22) Tryz.func68 ?_;cases hq32 _ (oI hp100);exact hR _ _ ⟨rfl,hS58⟩
    have hp102:=ite_t hp55 rfl;refine sR 9 td16 ?_;refine sR 1 td17 ?_;exact rF _ (ih29 _ _ hp102 he27 _ _ hS58)
   cases t48
   ·have hp103:=ite_f hv54 rfl;refine sR 4 (.inRegion (opsOf (cd68 61622)) [1,2]::.code (cd68 61623)::td21) ?_;obtain ⟨t104,hr105,hp106⟩:=bind_some' hp103;refine rC (lexis_digit.ok hr105 hS52) ?_;rintro _ w107 ⟨rfl,hS108⟩;refine ⟨_,rfl,?_⟩;refine sR 2 (.code (cd68 61623)::td21) ?_;cases t104
    ·have hp109:=ite_f hp106 rfl;refine sI 4 (.inRegion (opsOf (cd68 123247)) [2]::td21) 36 hp109 (fun hp112 => ?_) fun hp113 => ?_
     ·refine sR 2 td21 ?_;exact rF _ (J59 _ (oI hp112) _ _ hS108)
     refine sR 2 td21 ?_;exact rF _ (J59 _ (oI hp113) _ _ hS108)
    have hp114:=ite_t hp106 rfl;refine sR 2 td21 ?_;exact rF _ (J59 _ (oI hp114) _ _ hS108)
   have hp115:=ite_t hv54 rfl;refine sR 2 td21 ?_;exact rF _ (J59 _ (oI hp115) _ _ hS52)
  exact rF _ (L31 _ _ hv19 rfl _ _ hS12)

noncomputable def cd39 (p : Nat) : Code := sub (bodyOf Tryz.f39) (pth p)
abbrev td24:=tC (cd39 7) []
def lexis_Name.f (a0 : ByteArray) : Option Bool :=
  (if (!seq a0 (⟨#[]⟩ : ByteArray)) = true then (if (decide ((a0.size : Int) ≤ 64)) = true then (lexis_name.f a0 >>= (fun t7 => (if (t7 == (a0.size : Int)) = true then some (true) else some (false)))) else some (false)) else some (false))
theorem lexis_Name.ok {a0 : ByteArray} {q0 : Bool} (hp0 : lexis_Name.f a0 = some q0) (hS0 : St w0 Z (fs) w) :
    Calls Tryz.prog 39 #[.string a0] w (fun e w' => e = .returned (.bool q0) ∧ St w0 Z (fs) w'):=by
  refine calls_abs ?_; intro R hR;unfold lexis_Name.f at hp0;refine c0 Tryz.func39 (cd39 1) 16 ?_;refine sI 8 (iR (cd39 6) 2 13::td24) 4 hp0 (fun hp3 => ?_) fun hp20 => ?_
  ·refine sI 4 (iR (cd39 6) 6 9::td24) 8 hp3 (fun hp6 => ?_) fun hp18 => ?_
   ·refine sR 3 (iR (cd39 6) 9 6::td24) ?_;obtain ⟨t7,hr8,hp9⟩:=bind_some' hp6;refine rC (lexis_name.ok hr8 hS0) ?_;rintro _ w10 ⟨rfl,hS11⟩;refine ⟨_,rfl,?_⟩;refine sI 3 (.inRegion (opsOf (cd39 6)) [13,14]::td24) 15 hp9 (fun hp14 => ?_) fun hp16 => ?_
    ·refine sR 3 td24 ?_;refine rR (.bool true) Tryz.func39 ?_;cases oI hp14;exact hR _ _ ⟨rfl,hS11⟩
    refine sR 3 td24 ?_;refine rR (.bool false) Tryz.func39 ?_;cases oI hp16;exact hR _ _ ⟨rfl,hS11⟩
   refine sR 10 td24 ?_;refine rR (.bool false) Tryz.func39 ?_;cases oI hp18;exact hR _ _ ⟨rfl,hS0⟩
  refine sR 14 td24 ?_;refine rR (.bool false) Tryz.func39 ?_;cases oI hp20;exact hR _ _ ⟨rfl,hS0⟩

abbrev td25:=tC (cd37 7) []
abbrev td27:List Item:=.inLoop (cd37 52)::(tB 0 td25)
abbrev td28:=tC (cd37 52) td27
abbrev td30:=tB 1 (tC (cd37 423) td27)
abbrev td31:=tC (cd37 3379) td30
abbrev td32:=tC (cd37 13517) td30
def prog_rises_1.l0 (a0 : List ByteArray) (t11 : Int) : Option (Sum Unit Bool) :=
  (if (decide (t11 < (a0.length : Int))) = true then (if 0 ≤ t11 ∧ t11 < (a0.length : Int) then (if (decide (t11 > 0)) = true then (if 0 ≤ (IntKind.i64.wrap (t11 - 1)) ∧ (IntKind.i64.wrap (t11 - 1)) < (a0.length : Int) then (if (!Op.bytesLess (gt a0 (IntKind.i64.wrap (t11 - 1))).toList (gt a0 t11).toList) = true then some (.inr (false)) else (lexis_Name.f (gt a0 t11) >>= (fun t45 => (if (!t45) = true then some (.inr (false)) else (prog_rises_1.l0 a0 (IntKind.i64.wrap (t11 + 1))))))) else none) else (lexis_Name.f (gt a0 t11) >>= (fun t56 => (if (!t56) = true then some (.inr (false)) else (prog_rises_1.l0 a0 (IntKind.i64.wrap (t11 + 1))))))) else none) else some (.inl ()))
 partial_fixpoint
def prog_rises_1.f (a0 : List ByteArray) : Option Bool :=
  (prog_rises_1.l0 a0 0 >>= (fun | .inl () => some (true) | .inr e => some e))
theorem prog_rises_1.ok {a0 : List ByteArray} {Aa0 : Option Addr} {ca0 : Nat} {q0 : Bool} (hp0 : prog_rises_1.f a0 = some q0) (hS0 : St w0 Z (fs) w) (ha0 : SlZ (flat encS) 1 Z Aa0 ca0 a0) :
    Calls Tryz.prog 37 #[.slice Aa0 a0.length ca0,.func (.func 39) #[] #[]] w (fun e w' => e = .returned (.bool q0) ∧ St w0 Z (fs) w'):=by
  refine calls_abs ?_; intro R hR;unfold prog_rises_1.f at hp0;refine c0 Tryz.func37 (cd37 1) 30 ?_;refine sR 13 td28 ?_;obtain ⟨v1,hv2,hp3⟩:=bind_some' hp0;have hq6 : ∀ x,Sum.inr x = v1 → x = q0:=by intro x hx; subst hx; simpa using hp3
  have J7 : ∀ (he9 : Sum.inl () = v1) l8 w4 (hS5 : St w0 Z (fs) w4),Rn Tryz.prog 37 td25 32 [] l8 w4 R:=by
   intro he9 l8 w4 hS5;subst he9;(try dsimp only at hp3);refine sR 4 [.code (cd37 15)] ?_;refine rR (.bool true) Tryz.func37 ?_;cases oI hp3;exact hR _ _ ⟨rfl,hS5⟩
  have L20 : ∀ t11 e15,prog_rises_1.l0 a0 t11 = some e15 → e15 = v1 → ∀ l14 w12 (hS13 : St w0 Z (fs) w12),Rn Tryz.prog 37 td28 32 [(0,.slice Aa0 a0.length ca0),(1,.func (.func 39) #[] #[]),(7,.slice Aa0 a0.length ca0),(8,.int .i64 (a0.length : Int)),(9,.int .i64 t11)] l14 w12 R:=by
   refine prog_rises_1.l0.partial_correctness a0 (fun t11 e15 => e15 = v1 → ∀ (l14 : List Value) (w12 : World) (hS13 : St w0 Z (fs) w12),Rn Tryz.prog 37 td28 32 [(0,.slice Aa0 a0.length ca0),(1,.func (.func 39) #[] #[]),(7,.slice Aa0 a0.length ca0),(8,.int .i64 (a0.length : Int)),(9,.int .i64 t11)] l14 w12 R) ?_;intro rec19 ih18 t11 e15 hb17 he16 l14 w12 hS13;have hq21 : ∀ x,Sum.inr x = e15 → x = q0:=fun x hx => hq6 x (hx.trans he16);refine sI 3 (.inRegion (opsOf (cd37 104)) []::.code (cd37 105)::td27) 10 hb17 (fun hp24 => ?_) fun hp66 => ?_
   ·refine sR 9 (iR (cd37 1688) 1 4::.code (cd37 1689)::td30) ?_;obtain ⟨g25,hp26⟩:=ite_some hp24;obtain ⟨b27,p28,hA29,hc30⟩:=ha0.atF g25.1 g25.2;refine rX 24 1 (.tmp 7) (.tmp 9) hA29 g25 ?_;refine rL1 9 (.tmp 12) 0 (hc30.cells hS13) ?_;refine sI 7 (iR p37_8 2 15::td31) 15 hp26 (fun hp33 => ?_) fun hp55 => ?_
    ·refine sR 4 (iR p37_8 6 11::td31) ?_;obtain ⟨g34,hp35⟩:=ite_some hp33;obtain ⟨b36,p37,hA38,hc39⟩:=ha0.atF g34.1 g34.2;refine rX 24 1 (.tmp 17) (.tmp 19) hA38 g34 ?_;refine rL1 9 (.tmp 20) 0 (hc39.cells hS13) ?_;refine sI 2 (iR p37_8 10 7::td31) 23 hp35 (fun hp42 => ?_) fun hp44 => ?_
     ·refine sR 13 td32 ?_;refine rI (cd37 13517) ?_;refine rR (.bool false) Tryz.func37 ?_;cases hq21 _ (oI hp42);exact hR _ _ ⟨rfl,hS13⟩
     refine sR 4 (.inRegion (opsOf p37_8) [14,15,16]::td31) ?_;obtain ⟨t45,hr46,hp47⟩:=bind_some' hp44;refine rC (lexis_Name.ok hr46 hS13) ?_;rintro _ w48 ⟨rfl,hS49⟩;refine ⟨_,rfl,?_⟩;refine sI 1 (.inRegion (opsOf p37_8) [16]::td31) 29 hp47 (fun hp52 => ?_) fun hp54 => ?_
     ·refine sR 7 td32 ?_;refine rI (cd37 13517) ?_;refine rR (.bool false) Tryz.func37 ?_;cases hq21 _ (oI hp52);exact hR _ _ ⟨rfl,hS49⟩
     refine sR 9 td27 ?_;refine sR 1 td28 ?_;exact rF _ (ih18 _ _ hp54 he16 _ _ hS49)
    refine sR 12 (.inRegion (opsOf p37_8) [14,15,16]::td31) ?_;obtain ⟨t56,hr57,hp58⟩:=bind_some' hp55;refine rC (lexis_Name.ok hr57 hS13) ?_;rintro _ w59 ⟨rfl,hS60⟩;refine ⟨_,rfl,?_⟩;refine sI 1 (.inRegion (opsOf p37_8) [16]::td31) 29 hp58 (fun hp63 => ?_) fun hp65 => ?_
    ·refine sR 7 td32 ?_;refine rI (cd37 13517) ?_;refine rR (.bool false) Tryz.func37 ?_;cases hq21 _ (oI hp63);exact hR _ _ ⟨rfl,hS60⟩
    refine sR 9 td27 ?_;refine sR 1 td28 ?_;exact rF _ (ih18 _ _ hp65 he16 _ _ hS60)
   refine sR 4 td25 ?_;exact rF _ (J7 ((oI hp66).trans he16) _ _ hS13)
  exact rF _ (L20 _ _ hv2 rfl _ _ hS0)

noncomputable def cd69 (p : Nat) : Code := sub (bodyOf Tryz.f69) (pth p)
abbrev td34:=tB 0 (tC (cd69 7) [])
abbrev td35:=tC (cd69 221183) td34
def prog_kind.f (a0 : Int) : Option (prog_uses × Bool) :=
  (if (a0 == 1) = true then some (((⟨true,false,false,true,0⟩ : prog_uses),true)) else (if (a0 == 2) = true then some (((⟨true,true,false,false,0⟩ : prog_uses),true)) else (if (a0 == 3) = true then some (((⟨true,false,true,false,1⟩ : prog_uses),true)) else (if (a0 == 4) = true then some (((⟨false,false,true,true,1⟩ : prog_uses),true)) else (if (a0 == 5) = true then some (((⟨false,true,true,false,1⟩ : prog_uses),true)) else (if (a0 == 6) = true then some (((⟨false,false,false,false,1⟩ : prog_uses),true)) else (((if (a0 == 7) = true then some (true) else (if (a0 == 9) = true then some (true) else some (false))) : Option Bool) >>= (fun t56 => (if t56 = true then some (((⟨true,false,true,false,2⟩ : prog_uses),true)) else (if (a0 == 8) = true then some (((⟨false,true,true,false,2⟩ : prog_uses),true)) else some (((⟨false,false,false,false,0⟩ : prog_uses),false))))))))))))
theorem prog_kind.ok {a0 : Int} {q0 : prog_uses} {q1 : Bool} (hp0 : prog_kind.f a0 = some (q0,q1)) (hS0 : St w0 Z (fs) w) :
    Calls Tryz.prog 69 #[.int .i64 a0] w (fun e w' => e = .returned (.tuple #[.agg (enc_prog_uses q0).toArray,.bool q1]) ∧ St w0 Z (fs) w'):=by
  refine calls_abs ?_; intro R hR;unfold prog_kind.f at hp0;refine c0 Tryz.func69 (cd69 1) 30 ?_;refine sR 2 [.inRegion (opsOf (cd69 2)) [0,1],.code (cd69 3)] ?_;refine rA 135 (.agg (enc_prog_uses (⟨false,false,false,false,0⟩ : prog_uses)).toArray) (enc_prog_uses (⟨false,false,false,false,0⟩ : prog_uses)) hS0 ?_;intro b1 w2 hS3;refine sI 11 (.inRegion (opsOf (cd69 52)) [1]::.code (cd69 53)::td34) 6 hp0 (fun hp7 => ?_) fun hp12 => ?_
  ·refine sR 6 (.inRegion (opsOf (cd69 212)) [1,2]::.code (cd69 213)::td34) ?_;refine rSA 135 (.tmp 2) (.tmp 7) (enc_prog_uses (⟨true,false,false,true,0⟩ : prog_uses)) hS3 (one_prog_uses _) ?_;intro w8 hS9;refine sR 2 (.code (cd69 213)::td34) ?_;refine rRc (.tuple #[.agg (enc_prog_uses (⟨true,false,false,true,0⟩ : prog_uses)).toArray,.bool true]) (.ca 2 135 (hS9.blk 0 rfl) (.tm 3 .nil)) Tryz.func69 ?_;cases oI hp7;exact hR _ _ ⟨rfl,hS9.drop⟩
  refine sI 6 (.inRegion (opsOf (cd69 214)) [1]::.code (cd69 215)::td34) 9 hp12 (fun hp15 => ?_) fun hp20 => ?_
  ·refine sR 6 (.inRegion (opsOf (cd69 860)) [1,2]::.code (cd69 861)::td34) ?_;refine rSA 135 (.tmp 2) (.tmp 10) (enc_prog_uses (⟨true,true,false,false,0⟩ : prog_uses)) hS3 (one_prog_uses _) ?_;intro w16 hS17;refine sR 2 (.code (cd69 861)::td34) ?_;refine rRc (.tuple #[.agg (enc_prog_uses (⟨true,true,false,false,0⟩ : prog_uses)).toArray,.bool true]) (.ca 2 135 (hS17.blk 0 rfl) (.tm 3 .nil)) Tryz.func69 ?_;cases oI hp15;exact hR _ _ ⟨rfl,hS17.drop⟩
  refine sI 6 (.inRegion (opsOf (cd69 862)) [1]::.code (cd69 863)::td34) 12 hp20 (fun hp23 => ?_) fun hp28 => ?_
  ·refine sR 6 (.inRegion (opsOf (cd69 3452)) [1,2]::.code (cd69 3453)::td34) ?_;refine rSA 135 (.tmp 2) (.tmp 13) (enc_prog_uses (⟨true,false,true,false,1⟩ : prog_uses)) hS3 (one_prog_uses _) ?_;intro w24 hS25;refine sR 2 (.code (cd69 3453)::td34) ?_;refine rRc (.tuple #[.agg (enc_prog_uses (⟨true,false,true,false,1⟩ : prog_uses)).toArray,.bool true]) (.ca 2 135 (hS25.blk 0 rfl) (.tm 3 .nil)) Tryz.func69 ?_;cases oI hp23;exact hR _ _ ⟨rfl,hS25.drop⟩
  refine sI 6 (.inRegion (opsOf (cd69 3454)) [1]::.code (cd69 3455)::td34) 15 hp28 (fun hp31 => ?_) fun hp36 => ?_
  ·refine sR 6 (.inRegion (opsOf (cd69 13820)) [1,2]::.code (cd69 13821)::td34) ?_;refine rSA 135 (.tmp 2) (.tmp 16) (enc_prog_uses (⟨false,false,true,true,1⟩ : prog_uses)) hS3 (one_prog_uses _) ?_;intro w32 hS33;refine sR 2 (.code (cd69 13821)::td34) ?_;refine rI (cd69 13821) ?_;refine rRc (.tuple #[.agg (enc_prog_uses (⟨false,false,true,true,1⟩ : prog_uses)).toArray,.bool true]) (.ca 2 135 (hS33.blk 0 rfl) (.tm 3 .nil)) Tryz.func69 ?_;cases oI hp31;exact hR _ _ ⟨rfl,hS33.drop⟩
  refine sI 6 (.inRegion (opsOf (cd69 13822)) [1]::.code (cd69 13823)::td34) 18 hp36 (fun hp39 => ?_) fun hp44 => ?_
  ·refine sR 6 (.inRegion (opsOf (cd69 55292)) [1,2]::.code (cd69 55293)::td34) ?_;refine rSA 135 (.tmp 2) (.tmp 19) (enc_prog_uses (⟨false,true,true,false,1⟩ : prog_uses)) hS3 (one_prog_uses _) ?_;intro w40 hS41;refine sR 2 (.code (cd69 55293)::td34) ?_;refine rI (cd69 55293) ?_;refine rRc (.tuple #[.agg (enc_prog_uses (⟨false,true,true,false,1⟩ : prog_uses)).toArray,.bool true]) (.ca 2 135 (hS41.blk 0 rfl) (.tm 3 .nil)) Tryz.func69 ?_;cases oI hp39;exact hR _ _ ⟨rfl,hS41.drop⟩
  refine sI 6 (.inRegion (opsOf (cd69 55294)) [1]::.code (cd69 55295)::td34) 21 hp44 (fun hp47 => ?_) fun hp52 => ?_
  ·refine sR 6 (.inRegion (opsOf (cd69 221180)) [1,2]::.code (cd69 221181)::td34) ?_;refine rSA 135 (.tmp 2) (.tmp 22) (enc_prog_uses (⟨false,false,false,false,1⟩ : prog_uses)) hS3 (one_prog_uses _) ?_;intro w48 hS49;refine sR 2 (.code (cd69 221181)::td34) ?_;refine rI (cd69 221181) ?_;refine rRc (.tuple #[.agg (enc_prog_uses (⟨false,false,false,false,1⟩ : prog_uses)).toArray,.bool true]) (.ca 2 135 (hS49.blk 0 rfl) (.tm 3 .nil)) Tryz.func69 ?_;cases oI hp47;exact hR _ _ ⟨rfl,hS49.drop⟩
  obtain ⟨v53,hv54,hp55⟩:=bind_some' hp52;have J59 : ∀ t56 (he61 : t56 = v53) l60 w57 (hS58 : St w0 Z (xblk b1 135 (enc_prog_uses (⟨false,false,false,false,0⟩ : prog_uses))::fs) w57),Rn Tryz.prog 69 td35 31 [(2,.pointer (some ⟨b1,0,none⟩)),(4,.int .i64 a0),(23,.bool t56)] l60 w57 R:=by
   intro t56 he61 l60 w57 hS58;subst he61;(try dsimp only at hp55);cases t56
   ·have hp62:=ite_f hp55 rfl;refine sI 4 (.inRegion (opsOf (cd69 884734)) [1]::.code (cd69 884735)::td34) 28 hp62 (fun hp65 => ?_) fun hp70 => ?_
    ·refine sR 6 (.inRegion (opsOf (cd69 3538940)) [1,2]::.code (cd69 3538941)::td34) ?_;refine rSA 135 (.tmp 2) (.tmp 29) (enc_prog_uses (⟨false,true,true,false,2⟩ : prog_uses)) hS58 (one_prog_uses _) ?_;intro w66 hS67;refine sR 2 (.code (cd69 3538941)::td34) ?_;refine rI (cd69 3538941) ?_;refine rRc (.tuple #[.agg (enc_prog_uses (⟨false,true,true,false,2⟩ : prog_uses)).toArray,.bool true]) (.ca 2 135 (hS67.blk 0 rfl) (.tm 3 .nil)) Tryz.func69 ?_;cases oI hp65;exact hR _ _ ⟨rfl,hS67.drop⟩
    refine sR 8 [.inRegion (opsOf (cd69 14)) [1,2],.code (cd69 15)] ?_;refine rSA 135 (.tmp 2) (.tmp 30) (enc_prog_uses (⟨false,false,false,false,0⟩ : prog_uses)) hS58 (one_prog_uses _) ?_;intro w71 hS72;refine sR 2 [.code (cd69 15)] ?_;refine rRc (.tuple #[.agg (enc_prog_uses (⟨false,false,false,false,0⟩ : prog_uses)).toArray,.bool false]) (.ca 2 135 (hS72.blk 0 rfl) (.tm 3 .nil)) Tryz.func69 ?_;cases oI hp70;exact hR _ _ ⟨rfl,hS72.drop⟩
   have hp75:=ite_t hp55 rfl;refine sR 4 (.inRegion (opsOf (cd69 884732)) [1,2]::.code (cd69 884733)::td34) ?_;refine rSA 135 (.tmp 2) (.tmp 26) (enc_prog_uses (⟨true,false,true,false,2⟩ : prog_uses)) hS58 (one_prog_uses _) ?_;intro w76 hS77;refine sR 2 (.code (cd69 884733)::td34) ?_;refine rI (cd69 884733) ?_;refine rRc (.tuple #[.agg (enc_prog_uses (⟨true,false,true,false,2⟩ : prog_uses)).toArray,.bool true]) (.ca 2 135 (hS77.blk 0 rfl) (.tm 3 .nil)) Tryz.func69 ?_;cases oI hp75;exact hR _ _ ⟨rfl,hS77.drop⟩
  refine sI 7 (.inRegion (opsOf (cd69 442364)) [1]::.code (cd69 442365)::td35) 24 hv54 (fun hp82 => ?_) fun hp83 => ?_
  ·refine sR 4 td35 ?_;exact rF _ (J59 _ (oI hp82) _ _ hS3)
  refine sI 5 (.inRegion (opsOf (cd69 884731)) [1]::td35) 25 hp83 (fun hp86 => ?_) fun hp87 => ?_
  ·refine sR 2 td35 ?_;exact rF _ (J59 _ (oI hp86) _ _ hS3)
  refine sR 2 td35 ?_;exact rF _ (J59 _ (oI hp87) _ _ hS3)

noncomputable def cd70 (p : Nat) : Code := sub (bodyOf Tryz.f70) (pth p)
abbrev td36:=tC (cd70 7) []
abbrev td37:=tC (cd70 53) td36
def prog_fits_1.f (a0 : Bool) (a1 a2 : Int) : Option Bool :=
  (if a0 = true then (if (decide (a1 ≥ 0)) = true then (if (decide (a1 < a2)) = true then some (true) else some (false)) else some (false)) else (if (a1 == 0) = true then some (true) else some (false)))
theorem prog_fits_1.ok {a0 : Bool} {a1 a2 : Int} {q0 : Bool} (hp0 : prog_fits_1.f a0 a1 a2 = some q0) (hS0 : St w0 Z (fs) w) :
    Calls Tryz.prog 70 #[.bool a0,.int .i64 a1,.int .i64 a2] w (fun e w' => e = .returned (.bool q0) ∧ St w0 Z (fs) w'):=by
  refine calls_abs ?_; intro R hR;unfold prog_fits_1.f at hp0;refine c0 Tryz.func70 (cd70 1) 14 ?_;refine sR 9 (.code (cd70 13)::td36) ?_;cases a0
  ·have hp1:=ite_f hp0 rfl;refine sI 6 [.inRegion (opsOf (cd70 14)) [2],.code (cd70 15)] 16 hp1 (fun hp4 => ?_) fun hp6 => ?_
   ·refine sR 2 [.code (cd70 15)] ?_;refine rR (.bool true) Tryz.func70 ?_;cases oI hp4;exact hR _ _ ⟨rfl,hS0⟩
   refine sR 2 [.code (cd70 15)] ?_;refine rR (.bool false) Tryz.func70 ?_;cases oI hp6;exact hR _ _ ⟨rfl,hS0⟩
  have hp8:=ite_t hp0 rfl;refine sI 5 (iR (cd70 52) 2 6::td37) 9 hp8 (fun hp11 => ?_) fun hp18 => ?_
  ·refine sI 4 (.inRegion (opsOf (cd70 52)) [6,7]::td37) 13 hp11 (fun hp14 => ?_) fun hp16 => ?_
   ·refine sR 3 td37 ?_;refine rR (.bool true) Tryz.func70 ?_;cases oI hp14;exact hR _ _ ⟨rfl,hS0⟩
   refine sR 3 td37 ?_;refine rR (.bool false) Tryz.func70 ?_;cases oI hp16;exact hR _ _ ⟨rfl,hS0⟩
  refine sR 7 td37 ?_;refine rR (.bool false) Tryz.func70 ?_;cases oI hp18;exact hR _ _ ⟨rfl,hS0⟩

noncomputable def cd40 (p : Nat) : Code := sub (bodyOf Tryz.f40) (pth p)
abbrev p40_4:=cd40 60
abbrev p40_10:=cd40 500
abbrev td38:=tC (cd40 31) []
abbrev td39:=tC (cd40 61) td38
abbrev td40:=tC (cd40 63) []
abbrev td41:=tC (cd40 501) td40
abbrev td42:=tC (cd40 127) []
abbrev td43:List Item:=iR p40_4 18 16::td39
abbrev td44:List Item:=iR p40_4 21 13::td39
abbrev td45:List Item:=iR p40_4 23 11::td39
abbrev td46:List Item:=iR p40_4 26 8::td39
abbrev td47:List Item:=iR p40_4 30 4::td39
abbrev td48:List Item:=.inRegion (opsOf p40_4) [32,33]::td39
def prog_fits.f (a0 : api_Op) (a1 a2 : List ByteArray) : Option Bool :=
  (prog_kind.f a0.Kind >>= (fun (t5,t6) => (((if (!t6) = true then some (true) else (if t5.src = true then (prog_fits_1.f true a0.Src (a1.length : Int) >>= (fun t93 => (if (!t93) = true then some (true) else (if t5.loc = true then (prog_fits_1.f true a0.Loc (a2.length : Int) >>= (fun t106 => (if (!t106) = true then some (true) else (if t5.imm = true then some (false) else (if (a0.Imm != 0) = true then some (true) else some (false)))))) else (prog_fits_1.f false a0.Loc (a2.length : Int) >>= (fun t128 => (if (!t128) = true then some (true) else (if t5.imm = true then some (false) else (if (a0.Imm != 0) = true then some (true) else some (false)))))))))) else (prog_fits_1.f false a0.Src (a1.length : Int) >>= (fun t150 => (if (!t150) = true then some (true) else (if t5.loc = true then (prog_fits_1.f true a0.Loc (a2.length : Int) >>= (fun t163 => (if (!t163) = true then some (true) else (if t5.imm = true then some (false) else (if (a0.Imm != 0) = true then some (true) else some (false)))))) else (prog_fits_1.f false a0.Loc (a2.length : Int) >>= (fun t185 => (if (!t185) = true then some (true) else (if t5.imm = true then some (false) else (if (a0.Imm != 0) = true then some (true) else some (false)))))))))))) : Option Bool) >>= (fun t20 => (if t20 = true then some (false) else (if (a0.Kind == 8) = true then (if (decide (a0.Reg ≥ 0)) = true then (if (decide (a0.Reg < (a1.length : Int))) = true then (if 0 ≤ a0.Reg ∧ a0.Reg < (a1.length : Int) then (if (seq (gt a1 a0.Reg) (⟨#[69,65,88]⟩ : ByteArray)) = true then some (true) else some (false)) else none) else some (false)) else some (false)) else (if t5.reg = true then (prog_fits_1.f true a0.Reg (a1.length : Int) >>= (fun t64 => some (t64))) else (prog_fits_1.f false a0.Reg (a1.length : Int) >>= (fun t73 => some (t73))))))))))
theorem prog_fits.ok {a0 : api_Op} {a1 a2 : List ByteArray} {Aa1 : Option Addr} {ca1 : Nat} {Aa2 : Option Addr} {ca2 : Nat} {q0 : Bool} (hp0 : prog_fits.f a0 a1 a2 = some q0) (hS0 : St w0 Z (fs) w) (ha1 : SlZ (flat encS) 1 Z Aa1 ca1 a1) (ha2 : SlZ (flat encS) 1 Z Aa2 ca2 a2) :
    Calls Tryz.prog 40 #[.agg (enc_api_Op a0).toArray,.slice Aa1 a1.length ca1,.slice Aa2 a2.length ca2] w (fun e w' => e = .returned (.bool q0) ∧ St w0 Z (fs) w'):=by
  refine calls_abs ?_; intro R hR;unfold prog_fits.f at hp0;refine c0 Tryz.func40 (cd40 1) 76 ?_;refine sR 2 [.inRegion (opsOf (cd40 2)) [0,1],.code (cd40 3)] ?_;refine rB 103 (.tmp 0) (enc_api_Op a0) hS0 ?_;intro b1 w2 hS3;refine sR 5 [iR (cd40 6) 1 8,.code (cd40 7)] ?_;refine rL1 3 (.tmp 11) 0 (hS3.blk 0 rfl) ?_;obtain ⟨⟨t5,t6⟩,hr7,hp8⟩:=bind_some' hp0;(try dsimp only at hp8);refine rC (prog_kind.ok hr7 hS3) ?_;rintro _ w9 ⟨rfl,hS10⟩;refine ⟨_,rfl,?_⟩;refine sR 3 [.inRegion (opsOf (cd40 6)) [6,7,8],.code (cd40 7)] ?_;refine rA 135 (.agg (enc_prog_uses (⟨false,false,false,false,0⟩ : prog_uses)).toArray) (enc_prog_uses (⟨false,false,false,false,0⟩ : prog_uses)) hS10 ?_;intro b11 w12 hS13;refine rSA 135 (.tmp 7) (.tmp 14) (enc_prog_uses t5) hS13 (one_prog_uses _) ?_;intro w15 hS16;refine sR 8 (.code p40_4::td39) ?_;obtain ⟨v17,hv18,hp19⟩:=bind_some' hp8;have J23 : ∀ t20 (he25 : t20 = v17) l24 w21 (hS22 : St w0 Z (xblk b1 103 (enc_api_Op a0)::xblk b11 135 (enc_prog_uses t5)::fs) w21),Rn Tryz.prog 40 td39 79 [(1,.slice Aa1 a1.length ca1),(3,.pointer (some ⟨b1,0,none⟩)),(7,.pointer (some ⟨b11,0,none⟩)),(9,.func (.func 70) #[] #[]),(49,.bool t20)] l24 w21 R:=by
   intro t20 he25 l24 w21 hS22;subst he25;(try dsimp only at hp19);cases t20
   ·have hp26:=ite_f hp19 rfl;refine sR 6 (.inRegion (opsOf (cd40 124)) [1,2]::.code (cd40 125)::td40) ?_;refine rL1 3 (.tmp 50) 0 (hS22.blk 0 rfl) ?_;refine sI 1 (.inRegion (opsOf (cd40 124)) []::.code (cd40 125)::td40) 52 hp26 (fun hp29 => ?_) fun hp60 => ?_
    ·refine sR 5 (iR p40_10 1 18::td41) ?_;refine rL1 3 (.tmp 53) 1 (hS22.blk 0 rfl) ?_;refine sI 1 (iR p40_10 3 16::td41) 55 hp29 (fun hp32 => ?_) fun hp56 => ?_
     ·refine sR 2 (iR p40_10 5 14::td41) ?_;refine rL1 3 (.tmp 57) 1 (hS22.blk 0 rfl) ?_;refine sI 3 (iR p40_10 9 10::td41) 61 hp32 (fun hp35 => ?_) fun hp52 => ?_
      ·refine sR 4 (iR p40_10 13 6::td41) ?_;refine rL1 3 (.tmp 65) 1 (hS22.blk 0 rfl) ?_;obtain ⟨g36,hp37⟩:=ite_some hp35;obtain ⟨b38,p39,hA40,hc41⟩:=ha1.atF g36.1 g36.2;refine rX 24 1 (.tmp 64) (.tmp 66) hA40 g36 ?_;refine rL1 9 (.tmp 67) 0 (hc41.cells hS22) ?_;refine sI 1 (.inRegion (opsOf p40_10) [17,18]::td41) 69 hp37 (fun hp44 => ?_) fun hp48 => ?_
       ·refine sR 3 td41 ?_;refine rR (.bool true) Tryz.func40 ?_;cases oI hp44;exact hR _ _ ⟨rfl,hS22.drop.drop⟩
       refine sR 3 td41 ?_;refine rR (.bool false) Tryz.func40 ?_;cases oI hp48;exact hR _ _ ⟨rfl,hS22.drop.drop⟩
      refine sR 11 td41 ?_;refine rR (.bool false) Tryz.func40 ?_;cases oI hp52;exact hR _ _ ⟨rfl,hS22.drop.drop⟩
     refine sR 17 td41 ?_;refine rR (.bool false) Tryz.func40 ?_;cases oI hp56;exact hR _ _ ⟨rfl,hS22.drop.drop⟩
    refine sR 7 (iR (cd40 126) 2 7::td42) ?_;refine rL1 4 (.tmp 72) 0 (hS22.blk 1 rfl) ?_;refine r_split t5.reg (fun h61 => ?_) (fun h62 => ?_)
    ·have hp63:=ite_t hp60 h61;refine sR 1 (iR (cd40 126) 4 5::td42) ?_;refine rL1 3 (.tmp 74) 1 (hS22.blk 0 rfl) ?_;refine sR 2 (.inRegion (opsOf (cd40 126)) [7,8]::td42) ?_;obtain ⟨t64,hr65,hp66⟩:=bind_some' hp63;refine rC (prog_fits_1.ok hr65 hS22) ?_;rintro _ w67 ⟨rfl,hS68⟩;refine ⟨_,rfl,?_⟩;refine sR 2 td42 ?_;refine rR (.bool t64) Tryz.func40 ?_;cases oI hp66;exact hR _ _ ⟨rfl,hS68.drop.drop⟩
    have hp72:=ite_f hp60 h62;refine sR 1 (iR (cd40 126) 4 5::td42) ?_;refine rL1 3 (.tmp 74) 1 (hS22.blk 0 rfl) ?_;refine sR 2 (.inRegion (opsOf (cd40 126)) [7,8]::td42) ?_;obtain ⟨t73,hr74,hp75⟩:=bind_some' hp72;refine rC (prog_fits_1.ok hr74 hS22) ?_;rintro _ w76 ⟨rfl,hS77⟩;refine ⟨_,rfl,?_⟩;refine sR 2 td42 ?_;refine rR (.bool t73) Tryz.func40 ?_;cases oI hp75;exact hR _ _ ⟨rfl,hS77.drop.drop⟩
   have hp81:=ite_t hp19 rfl;refine sR 5 (.code (cd40 245)::td38) ?_;refine rR (.bool false) Tryz.func40 ?_;cases oI hp81;exact hR _ _ ⟨rfl,hS22.drop.drop⟩
  refine sI 3 (iR p40_4 2 32::td39) 17 hv18 (fun hp87 => ?_) fun hp89 => ?_
  ·refine sR 33 td39 ?_;exact rF _ (J23 _ (oI hp87) _ _ hS16.pick1)
  refine sR 3 (iR p40_4 5 29::td39) ?_;refine rL1 4 (.tmp 20) 1 (hS16.blk 0 rfl) ?_;refine r_split t5.src (fun h90 => ?_) (fun h91 => ?_)
  ·have hp92:=ite_t hp89 h90;refine sR 1 (iR p40_4 7 27::td39) ?_;refine rL1 3 (.tmp 22) 2 (hS16.blk 1 rfl) ?_;refine sR 2 (iR p40_4 10 24::td39) ?_;obtain ⟨t93,hr94,hp95⟩:=bind_some' hp92;refine rC (prog_fits_1.ok hr94 hS16) ?_;rintro _ w96 ⟨rfl,hS97⟩;refine ⟨_,rfl,?_⟩;refine sI 1 (iR p40_4 12 22::td39) 27 hp95 (fun hp100 => ?_) fun hp102 => ?_
   ·refine sR 23 td39 ?_;exact rF _ (J23 _ (oI hp100) _ _ hS97.pick1)
   refine sR 4 (iR p40_4 16 18::td39) ?_;refine rL1 4 (.tmp 31) 2 (hS97.blk 0 rfl) ?_;refine r_split t5.loc (fun h103 => ?_) (fun h104 => ?_)
   ·have hp105:=ite_t hp102 h103;refine sR 1 td43 ?_;refine rL1 3 (.tmp 33) 3 (hS97.blk 1 rfl) ?_;refine sR 2 td44 ?_;obtain ⟨t106,hr107,hp108⟩:=bind_some' hp105;refine rC (prog_fits_1.ok hr107 hS97) ?_;rintro _ w109 ⟨rfl,hS110⟩;refine ⟨_,rfl,?_⟩;refine sI 1 td45 38 hp108 (fun hp113 => ?_) fun hp115 => ?_
    ·refine sR 12 td39 ?_;exact rF _ (J23 _ (oI hp113) _ _ hS110.pick1)
    refine sR 3 td46 ?_;refine rL1 4 (.tmp 41) 3 (hS110.blk 0 rfl) ?_;refine r_split t5.imm (fun h116 => ?_) (fun h117 => ?_)
    ·have hp118:=ite_t hp115 h116;refine sR 8 td39 ?_;exact rF _ (J23 _ (oI hp118) _ _ hS110.pick1)
    have hp120:=ite_f hp115 h117;refine sR 3 td47 ?_;refine rL1 2 (.tmp 45) 4 (hS110.blk 1 rfl) ?_;refine sI 1 td48 47 hp120 (fun hp123 => ?_) fun hp125 => ?_
    ·refine sR 3 td39 ?_;exact rF _ (J23 _ (oI hp123) _ _ hS110.pick1)
    refine sR 3 td39 ?_;exact rF _ (J23 _ (oI hp125) _ _ hS110.pick1)
   have hp127:=ite_f hp102 h104;refine sR 1 td43 ?_;refine rL1 3 (.tmp 33) 3 (hS97.blk 1 rfl) ?_;refine sR 2 td44 ?_;obtain ⟨t128,hr129,hp130⟩:=bind_some' hp127;refine rC (prog_fits_1.ok hr129 hS97) ?_;rintro _ w131 ⟨rfl,hS132⟩;refine ⟨_,rfl,?_⟩;refine sI 1 td45 38 hp130 (fun hp135 => ?_) fun hp137 => ?_
   ·refine sR 12 td39 ?_;exact rF _ (J23 _ (oI hp135) _ _ hS132.pick1)
   refine sR 3 td46 ?_;refine rL1 4 (.tmp 41) 3 (hS132.blk 0 rfl) ?_;refine r_split t5.imm (fun h138 => ?_) (fun h139 => ?_)
   ·have hp140:=ite_t hp137 h138;refine sR 8 td39 ?_;exact rF _ (J23 _ (oI hp140) _ _ hS132.pick1)
   have hp142:=ite_f hp137 h139;refine sR 3 td47 ?_;refine rL1 2 (.tmp 45) 4 (hS132.blk 1 rfl) ?_;refine sI 1 td48 47 hp142 (fun hp145 => ?_) fun hp147 => ?_
   ·refine sR 3 td39 ?_;exact rF _ (J23 _ (oI hp145) _ _ hS132.pick1)
   refine sR 3 td39 ?_;exact rF _ (J23 _ (oI hp147) _ _ hS132.pick1)
  have hp149:=ite_f hp89 h91;refine sR 1 (iR p40_4 7 27::td39) ?_;refine rL1 3 (.tmp 22) 2 (hS16.blk 1 rfl) ?_;refine sR 2 (iR p40_4 10 24::td39) ?_;obtain ⟨t150,hr151,hp152⟩:=bind_some' hp149;refine rC (prog_fits_1.ok hr151 hS16) ?_;rintro _ w153 ⟨rfl,hS154⟩;refine ⟨_,rfl,?_⟩;refine sI 1 (iR p40_4 12 22::td39) 27 hp152 (fun hp157 => ?_) fun hp159 => ?_
  ·refine sR 23 td39 ?_;exact rF _ (J23 _ (oI hp157) _ _ hS154.pick1)
  refine sR 4 (iR p40_4 16 18::td39) ?_;refine rL1 4 (.tmp 31) 2 (hS154.blk 0 rfl) ?_;refine r_split t5.loc (fun h160 => ?_) (fun h161 => ?_)
  ·have hp162:=ite_t hp159 h160;refine sR 1 td43 ?_;refine rL1 3 (.tmp 33) 3 (hS154.blk 1 rfl) ?_;refine sR 2 td44 ?_;obtain ⟨t163,hr164,hp165⟩:=bind_some' hp162;refine rC (prog_fits_1.ok hr164 hS154) ?_;rintro _ w166 ⟨rfl,hS167⟩;refine ⟨_,rfl,?_⟩;refine sI 1 td45 38 hp165 (fun hp170 => ?_) fun hp172 => ?_
   ·refine sR 12 td39 ?_;exact rF _ (J23 _ (oI hp170) _ _ hS167.pick1)
   refine sR 3 td46 ?_;refine rL1 4 (.tmp 41) 3 (hS167.blk 0 rfl) ?_;refine r_split t5.imm (fun h173 => ?_) (fun h174 => ?_)
   ·have hp175:=ite_t hp172 h173;refine sR 8 td39 ?_;exact rF _ (J23 _ (oI hp175) _ _ hS167.pick1)
   have hp177:=ite_f hp172 h174;refine sR 3 td47 ?_;refine rL1 2 (.tmp 45) 4 (hS167.blk 1 rfl) ?_;refine sI 1 td48 47 hp177 (fun hp180 => ?_) fun hp182 => ?_
   ·refine sR 3 td39 ?_;exact rF _ (J23 _ (oI hp180) _ _ hS167.pick1)
   refine sR 3 td39 ?_;exact rF _ (J23 _ (oI hp182) _ _ hS167.pick1)
  have hp184:=ite_f hp159 h161;refine sR 1 td43 ?_;refine rL1 3 (.tmp 33) 3 (hS154.blk 1 rfl) ?_;refine sR 2 td44 ?_;obtain ⟨t185,hr186,hp187⟩:=bind_some' hp184;refine rC (prog_fits_1.ok hr186 hS154) ?_;rintro _ w188 ⟨rfl,hS189⟩;refine ⟨_,rfl,?_⟩;refine sI 1 td45 38 hp187 (fun hp192 => ?_) fun hp194 => ?_
  ·refine sR 12 td39 ?_;exact rF _ (J23 _ (oI hp192) _ _ hS189.pick1)
  refine sR 3 td46 ?_;refine rL1 4 (.tmp 41) 3 (hS189.blk 0 rfl) ?_;refine r_split t5.imm (fun h195 => ?_) (fun h196 => ?_)
  ·have hp197:=ite_t hp194 h195;refine sR 8 td39 ?_;exact rF _ (J23 _ (oI hp197) _ _ hS189.pick1)
  have hp199:=ite_f hp194 h196;refine sR 3 td47 ?_;refine rL1 2 (.tmp 45) 4 (hS189.blk 1 rfl) ?_;refine sI 1 td48 47 hp199 (fun hp202 => ?_) fun hp204 => ?_
  ·refine sR 3 td39 ?_;exact rF _ (J23 _ (oI hp202) _ _ hS189.pick1)
  refine sR 3 td39 ?_;exact rF _ (J23 _ (oI hp204) _ _ hS189.pick1)

noncomputable def cd41 (p : Nat) : Code := sub (bodyOf Tryz.f41) (pth p)
abbrev td49:=tC (cd41 15) []
abbrev td51:List Item:=.inLoop (cd41 116)::(tB 0 td49)
abbrev td52:=tC (cd41 116) td51
abbrev td54:=tB 1 (tC (cd41 935) td51)
abbrev td56:List Item:=.inLoop (cd41 29900)::(tB 2 td54)
abbrev td57:=tC (cd41 29900) td56
abbrev td59:=tB 3 (tC (cd41 239207) td56)
def prog_Events.l1 (a0 : api_Prog) (t17 t52 t53 : Int) : Option Int :=
  (if (decide (t53 < ((gt a0.Threads t17).length : Int))) = true then (if 0 ≤ t53 ∧ t53 < ((gt a0.Threads t17).length : Int) then (prog_kind.f ((gt (gt a0.Threads t17) t53).Kind) >>= (fun (t78,t79) => (prog_Events.l1 a0 t17 (IntKind.i64.wrap (t52 + t78.events)) (IntKind.i64.wrap (t53 + 1))))) else none) else some (t52))
 partial_fixpoint
def prog_Events.l0 (a0 : api_Prog) (t16 t17 : Int) : Option Int :=
  (if (decide (t17 < (a0.Threads.length : Int))) = true then (if 0 ≤ t17 ∧ t17 < (a0.Threads.length : Int) then (prog_Events.l1 a0 t17 t16 0 >>= (fun t46 => (prog_Events.l0 a0 t46 (IntKind.i64.wrap (t17 + 1))))) else none) else some (t16))
 partial_fixpoint
def prog_Events.f (a0 : api_Prog) : Option Int :=
  (prog_Events.l0 a0 (a0.Locs.length : Int) 0 >>= (fun t9 => some (t9)))
theorem prog_Events.ok {a0 : api_Prog} {y0 : Option Addr} {y1 : Nat} {y2 : Option Addr} {y3 : Nat} {y4 : Option Addr} {y5 : Nat} {y6 : Option Addr} {y7 : Nat} {y8 : Option Addr} {y9 : Nat} {q0 : Int} (hp0 : prog_Events.f a0 = some q0) (hS0 : St w0 Z (fs) w) (y10 : SlZ (repL (flat enc_api_Op) 5) 1 Z y0 y1 a0.Threads) (y11 : SlZ (repL (flat encS) 1) 1 Z y2 y3 a0.Regs) (y12 : SlZ (flat encS) 1 Z y4 y5 a0.Locs) (y13 : SlZ (repL (flat (encI .i64)) 1) 1 Z y6 y7 a0.RegInit) (y14 : SlZ (flat (encI .i64)) 1 Z y8 y9 a0.LocInit) :
    Calls Tryz.prog 41 #[.agg (ce_api_Prog a0 y0 y1 y2 y3 y4 y5 y6 y7 y8 y9).toArray] w (fun e w' => e = .returned (.int .i64 q0) ∧ St w0 Z (fs) w'):=by
  let u2 : Nat × Value:=(14,.slice y0 a0.Threads.length y1);let u1 : Nat × Value:=(15,.int .i64 (a0.Threads.length : Int));refine calls_abs ?_; intro R hR;unfold prog_Events.f at hp0;refine c0 Tryz.func41 (cd41 1) 38 ?_;refine sR 2 [.inRegion (opsOf (cd41 2)) [0,1],.code (cd41 3)] ?_;refine rB 28 (.tmp 0) (ce_api_Prog a0 y0 y1 y2 y3 y4 y5 y6 y7 y8 y9) hS0 ?_;intro b1 w2 hS3;refine sR 5 [.inRegion (opsOf (cd41 6)) [1,2,3],.code (cd41 7)] ?_;refine rL1 24 (.tmp 10) 2 (hS3.blk 0 rfl) ?_;refine sR 7 (.inRegion (opsOf (cd41 28)) [1,2,3]::.code (cd41 29)::td49) ?_;refine rL1 22 (.tmp 13) 0 (hS3.blk 0 rfl) ?_;refine sR 5 td52 ?_;obtain ⟨v6,hv7,hp8⟩:=bind_some' hp0;have J12 : ∀ t9 (he14 : t9 = v6) l13 w10 (hS11 : St w0 Z (fs) w10),Rn Tryz.prog 41 td49 39 [(3,.int .i64 t9)] l13 w10 R:=by
   intro t9 he14 l13 w10 hS11;subst he14;(try dsimp only at hp8);refine sR 5 [.code (cd41 31)] ?_;refine rR (.int .i64 t9) Tryz.func41 ?_;cases oI hp8;exact hR _ _ ⟨rfl,hS11⟩
  have L26 : ∀ t16 t17 e21,prog_Events.l0 a0 t16 t17 = some e21 → e21 = v6 → ∀ l20 w18 (hS19 : St w0 Z (fs) w18),Rn Tryz.prog 41 td52 39 [(3,.int .i64 t16),u2,u1,(16,.int .i64 t17)] l20 w18 R:=by
   refine prog_Events.l0.partial_correctness a0 (fun t16 t17 e21 => e21 = v6 → ∀ (l20 : List Value) (w18 : World) (hS19 : St w0 Z (fs) w18),Rn Tryz.prog 41 td52 39 [(3,.int .i64 t16),u2,u1,(16,.int .i64 t17)] l20 w18 R) ?_;intro rec25 ih24 t16 t17 e21 hb23 he22 l20 w18 hS19;refine sI 3 (.inRegion (opsOf (cd41 232)) []::.code (cd41 233)::td51) 17 hb23 (fun hp29 => ?_) fun hp93 => ?_
   ·refine sR 8 (.inRegion (opsOf (cd41 3736)) [0,1,2]::.code (cd41 3737)::td54) ?_;obtain ⟨g30,hp31⟩:=ite_some hp29;obtain ⟨b32,p33,cs36,hA34,hr37,hl38,hc35⟩:=y10.at_ g30.1 g30.2;obtain ⟨A39,c40,rfl,hs41⟩:=hr37;refine rX 22 1 (.tmp 14) (.tmp 16) hA34 g30 ?_;refine rL1 101 (.tmp 18) 0 (hc35.cells hS19) ?_;refine sR 10 td57 ?_;obtain ⟨v43,hv44,hp45⟩:=bind_some' hp31;have J49 : ∀ t46 (he51 : t46 = v43) l50 w47 (hS48 : St w0 Z (fs) w47),Rn Tryz.prog 41 td54 39 [(3,.int .i64 t46),u2,u1,(16,.int .i64 t17)] l50 w47 R:=by
     intro t46 he51 l50 w47 hS48;subst he51;(try dsimp only at hp45);refine sR 5 td51 ?_;refine sR 1 td52 ?_;exact rF _ (ih24 _ _ _ hp45 he22 _ _ hS48)
    have L62 : ∀ t52 t53 e57,prog_Events.l1 a0 t17 t52 t53 = some e57 → e57 = v43 → ∀ l56 w54 (hS55 : St w0 Z (fs) w54),Rn Tryz.prog 41 td57 39 [(3,.int .i64 t52),u2,u1,(16,.int .i64 t17),(20,.slice A39 (gt a0.Threads t17).length c40),(21,.int .i64 ((gt a0.Threads t17).length : Int)),(22,.int .i64 t53)] l56 w54 R:=by
     refine prog_Events.l1.partial_correctness a0 t17 (fun t52 t53 e57 => e57 = v43 → ∀ (l56 : List Value) (w54 : World) (hS55 : St w0 Z (fs) w54),Rn Tryz.prog 41 td57 39 [(3,.int .i64 t52),u2,u1,(16,.int .i64 t17),(20,.slice A39 (gt a0.Threads t17).length c40),(21,.int .i64 ((gt a0.Threads t17).length : Int)),(22,.int .i64 t53)] l56 w54 R) ?_;intro rec61 ih60 t52 t53 e57 hb59 he58 l56 w54 hS55;refine sI 3 (.inRegion (opsOf (cd41 59800)) []::.code (cd41 59801)::td56) 23 hb59 (fun hp65 => ?_) fun hp92 => ?_
     ·refine sR 8 (iR (cd41 956824) 0 4::.code (cd41 956825)::td59) ?_;obtain ⟨g66,hp67⟩:=ite_some hp65;obtain ⟨b68,p69,hA70,hc71⟩:=hs41.atF g66.1 g66.2;refine rX 101 5 (.tmp 20) (.tmp 22) hA70 g66 ?_;refine rLa 103 (.tmp 24) (hc71.cells hS55) ?_;refine rA 103 (.agg (enc_api_Op (⟨0,0,0,0,0⟩ : api_Op)).toArray) (enc_api_Op (⟨0,0,0,0,0⟩ : api_Op)) hS55 ?_;intro b72 w73 hS74;refine rSA 103 (.tmp 7) (.tmp 25) (enc_api_Op (gt (gt a0.Threads t17) t53)) hS74 (one_api_Op _) ?_;intro w76 hS77;refine sR 4 (iR (cd41 1913650) 1 8::.code (cd41 1913651)::td59) ?_;refine rL1 3 (.tmp 27) 0 (hS77.blk 0 rfl) ?_;obtain ⟨⟨t78,t79⟩,hr80,hp81⟩:=bind_some' hp67;(try dsimp only at hp81);refine rC (prog_kind.ok hr80 hS77) ?_;rintro _ w82 ⟨rfl,hS83⟩;refine ⟨_,rfl,?_⟩;refine sR 3 (.inRegion (opsOf (cd41 1913650)) [6,7,8]::.code (cd41 1913651)::td59) ?_;refine rA 135 (.agg (enc_prog_uses (⟨false,false,false,false,0⟩ : prog_uses)).toArray) (enc_prog_uses (⟨false,false,false,false,0⟩ : prog_uses)) hS83 ?_;intro b84 w85 hS86;refine rSA 135 (.tmp 8) (.tmp 30) (enc_prog_uses t78) hS86 (one_prog_uses _) ?_;intro w88 hS89;refine sR 5 (.inRegion (opsOf (cd41 1913651)) [2,3,4]::td59) ?_;refine rL1 3 (.tmp 33) 4 (hS89.blk 0 rfl) ?_;refine sR 8 td56 ?_;refine sR 1 td57 ?_;exact rF _ (ih60 _ _ _ hp81 he58 _ _ hS89.drop.drop)
     refine sR 4 td54 ?_;exact rF _ (J49 _ ((oI hp92).trans he58) _ _ hS55)
    exact rF _ (L62 _ _ _ hv44 rfl _ _ hS19)
   refine sR 4 td49 ?_;exact rF _ (J12 _ ((oI hp93).trans he22) _ _ hS19)
  exact rF _ (L26 _ _ _ hv7 rfl _ _ hS3.drop)

noncomputable def cd21 (p : Nat) : Code := sub (bodyOf Tryz.f21) (pth p)
abbrev p21_6:=cd21 28
abbrev p21_62:=cd21 15666
abbrev td60:=tC (cd21 7) []
abbrev td61:=tC (cd21 13) td60
abbrev td62:=tC (cd21 15) []
abbrev td63:=tC (cd21 29) td62
abbrev td64:=tC (cd21 31) []
abbrev td66:List Item:=.inLoop (cd21 244)::(tB 0 td64)
abbrev td67:=tC (cd21 244) td66
abbrev td68:=tC (cd21 63) []
abbrev td70:List Item:=.inLoop (cd21 500)::(tB 2 td68)
abbrev td71:=tC (cd21 500) td70
abbrev td72:=tC (cd21 127) []
abbrev td73:=tC (cd21 253) td72
abbrev td74:=tC (cd21 511) []
abbrev td76:List Item:=.inLoop (cd21 4084)::(tB 4 td74)
abbrev td77:=tC (cd21 4084) td76
abbrev td79:=tB 5 (tC (cd21 32679) td76)
abbrev td81:List Item:=.inLoop (cd21 1045708)::(tB 6 td79)
abbrev td82:=tC (cd21 1045708) td81
abbrev td84:=tB 7 (tC (cd21 8365671) td81)
abbrev td86:=tB 3 (tC (cd21 4007) td70)
abbrev td88:=tB 1 (tC (cd21 1959) td66)
abbrev td89:=tC (cd21 15667) td88
def prog_Valid.l3 (a0 : api_Prog) (t92 t128 : Int) : Option (Sum Unit (Sum Unit Int)) :=
  (if (decide (t128 < ((gt a0.Threads t92).length : Int))) = true then (if 0 ≤ t128 ∧ t128 < ((gt a0.Threads t92).length : Int) then (if 0 ≤ t92 ∧ t92 < (a0.Regs.length : Int) then (prog_fits.f (gt (gt a0.Threads t92) t128) (gt a0.Regs t92) a0.Locs >>= (fun t167 => (if (!t167) = true then some (.inr (.inr (93))) else (prog_Valid.l3 a0 t92 (IntKind.i64.wrap (t128 + 1)))))) else none) else none) else some (.inl ()))
 partial_fixpoint
def prog_Valid.l2 (a0 : api_Prog) (t92 : Int) : Option (Sum Unit Int) :=
  (if (decide (t92 < (a0.Threads.length : Int))) = true then (if 0 ≤ t92 ∧ t92 < (a0.Threads.length : Int) then (prog_Valid.l3 a0 t92 0 >>= (fun | .inl () => (prog_Valid.l2 a0 (IntKind.i64.wrap (t92 + 1))) | .inr e => some e)) else none) else some (.inl ()))
 partial_fixpoint
def prog_Valid.l1 (a0 : api_Prog) (t186 : Int) : Option (Sum Unit Int) :=
  (if (decide (t186 < (a0.Regs.length : Int))) = true then (if 0 ≤ t186 ∧ t186 < (a0.Regs.length : Int) then (if (decide (((gt a0.Regs t186).length : Int) > 8)) = true then some (.inr (98)) else (prog_Valid.l1 a0 (IntKind.i64.wrap (t186 + 1)))) else none) else some (.inl ()))
 partial_fixpoint
def prog_Valid.l0 (a0 : api_Prog) (t220 : Int) : Option (Sum Unit Int) :=
  (if (decide (t220 < (a0.Regs.length : Int))) = true then (if 0 ≤ t220 ∧ t220 < (a0.Regs.length : Int) then (if 0 ≤ t220 ∧ t220 < (a0.RegInit.length : Int) then (if (((gt a0.RegInit t220).length : Int) != ((gt a0.Regs t220).length : Int)) = true then some (.inr (92)) else (prog_rises.f (gt a0.Regs t220) >>= (fun t266 => (if (!t266) = true then some (.inr (92)) else (prog_Valid.l0 a0 (IntKind.i64.wrap (t220 + 1))))))) else none) else none) else some (.inl ()))
 partial_fixpoint
def prog_Valid.f (a0 : api_Prog) : Option Int :=
  (if ((a0.Threads.length : Int) == 0) = true then some (95) else (if (decide ((a0.Threads.length : Int) > 4)) = true then some (95) else (if ((a0.Regs.length : Int) != (a0.Threads.length : Int)) = true then some (92) else (if ((a0.RegInit.length : Int) != (a0.Threads.length : Int)) = true then some (92) else (prog_Valid.l0 a0 0 >>= (fun | .inl () => (prog_Valid.l1 a0 0 >>= (fun | .inl () => (if ((a0.LocInit.length : Int) != (a0.Locs.length : Int)) = true then some (52) else (prog_rises_1.f a0.Locs >>= (fun t53 => (if (!t53) = true then some (52) else (if (decide ((a0.Locs.length : Int) > 16)) = true then some (97) else (prog_Valid.l2 a0 0 >>= (fun | .inl () => (prog_Events.f a0 >>= (fun t79 => (if (decide (t79 > 64)) = true then some (96) else some (0)))) | .inr e => some e))))))) | .inr e => some e)) | .inr e => some e))))))
theorem prog_Valid.ok {a0 : api_Prog} {y0 : Option Addr} {y1 : Nat} {y2 : Option Addr} {y3 : Nat} {y4 : Option Addr} {y5 : Nat} {y6 : Option Addr} {y7 : Nat} {y8 : Option Addr} {y9 : Nat} {q0 : Int} (hp0 : prog_Valid.f a0 = some q0) (hS0 : St w0 Z (fs) w) (y10 : SlZ (repL (flat enc_api_Op) 5) 1 Z y0 y1 a0.Threads) (y11 : SlZ (repL (flat encS) 1) 1 Z y2 y3 a0.Regs) (y12 : SlZ (flat encS) 1 Z y4 y5 a0.Locs) (y13 : SlZ (repL (flat (encI .i64)) 1) 1 Z y6 y7 a0.RegInit) (y14 : SlZ (flat (encI .i64)) 1 Z y8 y9 a0.LocInit) :
    Calls Tryz.prog 21 #[.agg (ce_api_Prog a0 y0 y1 y2 y3 y4 y5 y6 y7 y8 y9).toArray] w (fun e w' => e = .returned (.int .i64 q0) ∧ St w0 Z (fs) w'):=by
  let u4 : Nat × Value:=(89,.slice y0 a0.Threads.length y1);let u3 : Nat × Value:=(90,.int .i64 (a0.Threads.length : Int));refine calls_abs ?_; intro R hR;unfold prog_Valid.f at hp0;refine c0 Tryz.func21 (cd21 1) 116 ?_;refine sR 2 [.inRegion (opsOf (cd21 2)) [0,1],.code (cd21 3)] ?_;refine rB 28 (.tmp 0) (ce_api_Prog a0 y0 y1 y2 y3 y4 y5 y6 y7 y8 y9) hS0 ?_;intro b1 w2 hS3;let u2 : Nat × Value:=(1,.pointer (some ⟨b1,0,none⟩));let u1:=xblk b1 28 ((ce_api_Prog a0 y0 y1 y2 y3 y4 y5 y6 y7 y8 y9));refine sR 6 (iR (cd21 12) 1 9::td61) ?_;refine rL1 22 (.tmp 11) 0 (hS3.blk 0 rfl) ?_;refine sI 2 (iR (cd21 12) 4 6::td61) 14 hp0 (fun hp7 => ?_) fun hp10 => ?_
  ·refine sR 12 (.code (cd21 53)::td60) ?_;refine rR (.int .i64 95) Tryz.func21 ?_;cases oI hp7;exact hR _ _ ⟨rfl,hS3.drop⟩
  refine sR 2 (iR (cd21 12) 6 4::td61) ?_;refine rL1 22 (.tmp 16) 0 (hS3.blk 0 rfl) ?_;refine sI 2 (.inRegion (opsOf (cd21 12)) [9]::td61) 19 hp10 (fun hp13 => ?_) fun hp16 => ?_
  ·refine sR 7 (.code (cd21 53)::td60) ?_;refine rR (.int .i64 95) Tryz.func21 ?_;cases oI hp13;exact hR _ _ ⟨rfl,hS3.drop⟩
  refine sR 8 (iR p21_6 1 15::td63) ?_;refine rL1 23 (.tmp 21) 1 (hS3.blk 0 rfl) ?_;refine sR 2 (iR p21_6 4 12::td63) ?_;refine rL1 22 (.tmp 24) 0 (hS3.blk 0 rfl) ?_;refine sI 2 (iR p21_6 7 9::td63) 27 hp16 (fun hp19 => ?_) fun hp22 => ?_
  ·refine sR 15 (.code (cd21 117)::td62) ?_;refine rR (.int .i64 92) Tryz.func21 ?_;cases oI hp19;exact hR _ _ ⟨rfl,hS3.drop⟩
  refine sR 2 (iR p21_6 9 7::td63) ?_;refine rL1 25 (.tmp 29) 3 (hS3.blk 0 rfl) ?_;refine sR 2 (iR p21_6 12 4::td63) ?_;refine rL1 22 (.tmp 32) 0 (hS3.blk 0 rfl) ?_;refine sI 2 (.inRegion (opsOf p21_6) [15]::td63) 35 hp22 (fun hp25 => ?_) fun hp28 => ?_
  ·refine sR 7 (.code (cd21 117)::td62) ?_;refine rR (.int .i64 92) Tryz.func21 ?_;cases oI hp25;exact hR _ _ ⟨rfl,hS3.drop⟩
  refine sR 8 (.inRegion (opsOf (cd21 60)) [1,2,3]::.code (cd21 61)::td64) ?_;refine rL1 23 (.tmp 37) 1 (hS3.blk 0 rfl) ?_;refine sR 5 td67 ?_;obtain ⟨v29,hv30,hp31⟩:=bind_some' hp28;have hq34 : ∀ x,Sum.inr x = v29 → x = q0:=by intro x hx; subst hx; simpa using hp31
  have J35 : ∀ (he37 : Sum.inl () = v29) l36 w32 (hS33 : St w0 Z (u1::fs) w32),Rn Tryz.prog 21 td64 117 [u2] l36 w32 R:=by
   intro he37 l36 w32 hS33;subst he37;(try dsimp only at hp31);refine sR 4 (.inRegion (opsOf (cd21 124)) [1,2,3]::.code (cd21 125)::td68) ?_;refine rL1 23 (.tmp 60) 1 (hS33.blk 0 rfl) ?_;refine sR 5 td71 ?_;obtain ⟨v38,hv39,hp40⟩:=bind_some' hp31;have hq43 : ∀ x,Sum.inr x = v38 → x = q0:=by intro x hx; subst hx; simpa using hp40
   have J44 : ∀ (he46 : Sum.inl () = v38) l45 w41 (hS42 : St w0 Z (u1::fs) w41),Rn Tryz.prog 21 td68 117 [u2] l45 w41 R:=by
    intro he46 l45 w41 hS42;subst he46;(try dsimp only at hp40);refine sR 4 (iR (cd21 252) 1 12::td73) ?_;refine rL1 26 (.tmp 71) 4 (hS42.blk 0 rfl) ?_;refine sR 2 (iR (cd21 252) 4 9::td73) ?_;refine rL1 24 (.tmp 74) 2 (hS42.blk 0 rfl) ?_;refine sI 2 (iR (cd21 252) 7 6::td73) 77 hp40 (fun hp49 => ?_) fun hp52 => ?_
    ·refine sR 12 (.code (cd21 1013)::td72) ?_;refine rR (.int .i64 52) Tryz.func21 ?_;cases oI hp49;exact hR _ _ ⟨rfl,hS42.drop⟩
    refine sR 2 (iR (cd21 252) 9 4::td73) ?_;refine rL1 24 (.tmp 79) 2 (hS42.blk 0 rfl) ?_;obtain ⟨t53,hr54,hp55⟩:=bind_some' hp52;refine rC (prog_rises_1.ok hr54 hS42 y12) ?_;rintro _ w56 ⟨rfl,hS57⟩;refine ⟨_,rfl,?_⟩;refine sI 1 (.inRegion (opsOf (cd21 252)) [12]::td73) 82 hp55 (fun hp60 => ?_) fun hp63 => ?_
    ·refine sR 7 (.code (cd21 1013)::td72) ?_;refine rR (.int .i64 52) Tryz.func21 ?_;cases oI hp60;exact hR _ _ ⟨rfl,hS57.drop⟩
    refine sR 8 [.inRegion (opsOf (cd21 508)) [1,2,3],.code (cd21 509),.code (cd21 255)] ?_;refine rL1 24 (.tmp 84) 2 (hS57.blk 0 rfl) ?_;refine sI 2 [.inRegion (opsOf (cd21 508)) [],.code (cd21 509),.code (cd21 255)] 87 hp63 (fun hp66 => ?_) fun hp69 => ?_
    ·refine sR 6 [.code (cd21 2037),.code (cd21 255)] ?_;refine rR (.int .i64 97) Tryz.func21 ?_;cases oI hp66;exact hR _ _ ⟨rfl,hS57.drop⟩
    refine sR 7 (.inRegion (opsOf (cd21 1020)) [1,2,3]::.code (cd21 1021)::td74) ?_;refine rL1 22 (.tmp 88) 0 (hS57.blk 0 rfl) ?_;refine sR 5 td77 ?_;obtain ⟨v70,hv71,hp72⟩:=bind_some' hp69;have hq75 : ∀ x,Sum.inr x = v70 → x = q0:=by intro x hx; subst hx; simpa using hp72
    have J76 : ∀ (he78 : Sum.inl () = v70) l77 w73 (hS74 : St w0 Z (u1::fs) w73),Rn Tryz.prog 21 td74 117 [u2] l77 w73 R:=by
     intro he78 l77 w73 hS74;subst he78;(try dsimp only at hp72);refine sR 3 [.inRegion (opsOf (cd21 2044)) [0,1,2],.code (cd21 2045),.code (cd21 1023)] ?_;refine rLa 28 (.tmp 1) (hS74.blk 0 rfl) ?_;obtain ⟨t79,hr80,hp81⟩:=bind_some' hp72;refine rC (prog_Events.ok hr80 hS74 y10 y11 y12 y13 y14) ?_;rintro _ w82 ⟨rfl,hS83⟩;refine ⟨_,rfl,?_⟩;refine sI 1 [.inRegion (opsOf (cd21 2044)) [],.code (cd21 2045),.code (cd21 1023)] 116 hp81 (fun hp86 => ?_) fun hp89 => ?_
     ·refine sR 6 [.code (cd21 8181),.code (cd21 1023)] ?_;refine rR (.int .i64 96) Tryz.func21 ?_;cases oI hp86;exact hR _ _ ⟨rfl,hS83.drop⟩
     refine sR 7 [.code (cd21 2047)] ?_;refine rR (.int .i64 0) Tryz.func21 ?_;cases oI hp89;exact hR _ _ ⟨rfl,hS83.drop⟩
    have L101 : ∀ t92 e96,prog_Valid.l2 a0 t92 = some e96 → e96 = v70 → ∀ l95 w93 (hS94 : St w0 Z (u1::fs) w93),Rn Tryz.prog 21 td77 117 [u2,u4,u3,(91,.int .i64 t92)] l95 w93 R:=by
     refine prog_Valid.l2.partial_correctness a0 (fun t92 e96 => e96 = v70 → ∀ (l95 : List Value) (w93 : World) (hS94 : St w0 Z (u1::fs) w93),Rn Tryz.prog 21 td77 117 [u2,u4,u3,(91,.int .i64 t92)] l95 w93 R) ?_;intro rec100 ih99 t92 e96 hb98 he97 l95 w93 hS94;have hq102 : ∀ x,Sum.inr x = e96 → x = q0:=fun x hx => hq75 x (hx.trans he97);refine sI 3 (.inRegion (opsOf (cd21 8168)) []::.code (cd21 8169)::td76) 92 hb98 (fun hp105 => ?_) fun hp185 => ?_
     ·refine sR 9 (iR (cd21 130712) 1 4::.code (cd21 130713)::td79) ?_;obtain ⟨g106,hp107⟩:=ite_some hp105;obtain ⟨b108,p109,cs112,hA110,hr113,hl114,hc111⟩:=y10.at_ g106.1 g106.2;obtain ⟨A115,c116,rfl,hs117⟩:=hr113;refine rX 22 1 (.tmp 89) (.tmp 91) hA110 g106 ?_;refine rL1 101 (.tmp 94) 0 (hc111.cells hS94) ?_;refine sR 11 td82 ?_;obtain ⟨v119,hv120,hp121⟩:=bind_some' hp107;have hq124 : ∀ x,Sum.inr x = v119 → x = e96:=by intro x hx; subst hx; simpa using hp121
      have J125 : ∀ (he127 : Sum.inl () = v119) l126 w122 (hS123 : St w0 Z (u1::fs) w122),Rn Tryz.prog 21 td79 117 [u2,u4,u3,(91,.int .i64 t92)] l126 w122 R:=by
       intro he127 l126 w122 hS123;subst he127;(try dsimp only at hp121);refine sR 5 td76 ?_;refine sR 1 td77 ?_;exact rF _ (ih99 _ _ hp121 he97 _ _ hS123)
      have L137 : ∀ t128 e132,prog_Valid.l3 a0 t92 t128 = some e132 → e132 = v119 → ∀ l131 w129 (hS130 : St w0 Z (u1::fs) w129),Rn Tryz.prog 21 td82 117 [u2,(7,.int .i64 t92),u4,u3,(91,.int .i64 t92),(96,.slice A115 (gt a0.Threads t92).length c116),(97,.int .i64 ((gt a0.Threads t92).length : Int)),(98,.int .i64 t128)] l131 w129 R:=by
       refine prog_Valid.l3.partial_correctness a0 t92 (fun t128 e132 => e132 = v119 → ∀ (l131 : List Value) (w129 : World) (hS130 : St w0 Z (u1::fs) w129),Rn Tryz.prog 21 td82 117 [u2,(7,.int .i64 t92),u4,u3,(91,.int .i64 t92),(96,.slice A115 (gt a0.Threads t92).length c116),(97,.int .i64 ((gt a0.Threads t92).length : Int)),(98,.int .i64 t128)] l131 w129 R) ?_;intro rec136 ih135 t128 e132 hb134 he133 l131 w129 hS130;have hq138 : ∀ x,Sum.inr x = e132 → x = e96:=fun x hx => hq124 x (hx.trans he133);refine sI 3 (.inRegion (opsOf (cd21 2091416)) []::.code (cd21 2091417)::td81) 99 hb134 (fun hp141 => ?_) fun hp184 => ?_
       ·refine sR 8 (iR (cd21 33462680) 0 4::.code (cd21 33462681)::td84) ?_;obtain ⟨g142,hp143⟩:=ite_some hp141;obtain ⟨b144,p145,hA146,hc147⟩:=hs117.atF g142.1 g142.2;refine rX 101 5 (.tmp 96) (.tmp 98) hA146 g142 ?_;refine rLa 103 (.tmp 100) (hc147.cells hS130) ?_;refine rA 103 (.agg (enc_api_Op (⟨0,0,0,0,0⟩ : api_Op)).toArray) (enc_api_Op (⟨0,0,0,0,0⟩ : api_Op)) hS130 ?_;intro b148 w149 hS150;refine rSA 103 (.tmp 10) (.tmp 101) (enc_api_Op (gt (gt a0.Threads t92) t128)) hS150 (one_api_Op _) ?_;intro w152 hS153;refine sR 2 (.code (cd21 66925362)::.code (cd21 66925363)::td84) ?_;refine rQ hS153 (cd21 66925362) 27 [0,1,2,3,4,5,6,7,8,9] ?_;refine qLa 103 (.tmp 10) (fun w hC => (hC.blk 0 rfl)) ?_;refine qR 1 (rg 2 8) ?_;refine qL1 23 (.tmp 103) 1 (fun w hC => (hC.blk 1 rfl)) ?_;refine qR 1 (rg 4 6) ?_;obtain ⟨g154,hp155⟩:=ite_some hp143;obtain ⟨b156,p157,cs160,hA158,hr161,hl162,hc159⟩:=y11.at_ g154.1 g154.2;obtain ⟨A163,c164,rfl,hs165⟩:=hr161;refine qX 23 1 (.tmp 104) (.tmp 105) hA158 g154 ?_;refine qL1 24 (.tmp 106) 0 (fun w hC => (hc159.cells hC)) ?_;refine qR 1 [7,8,9] ?_;refine qL1 24 (.tmp 108) 2 (fun w hC => (hC.blk 1 rfl)) ?_;obtain ⟨t167,hr168,hp169⟩:=bind_some' hp155;refine q_call1 (c:=(cd21 66925362)) (i:=8) (d:=(some 110)) (v:=.bool t167) (g:=40) (args:=#[.agg (enc_api_Op (gt (gt a0.Threads t92) t128)).toArray,.slice A163 (gt a0.Regs t92).length c164,.slice y4 a0.Locs.length y5]) (by kernel_rfl) (by kernel_rfl) (by kernel_rfl) (by kernel_rfl) (fun w hC => by
         refine (prog_fits.ok hr168 hC hs165 y12).mono ?_;rintro e w2 ⟨rfl,h2⟩;exact ⟨rfl,h2.pick1.pick1⟩) ?_
        refine qI 1 [] 111 hp169 (fun hp174 => ?_) fun hp180 => ?_
        ·refine Qs.nil ?_;intro w175 hS176;refine sR 5 (.code (cd21 267701453)::td84) ?_;refine rI (cd21 267701453) ?_;refine rR (.int .i64 93) Tryz.func21 ?_;cases hq102 _ (hq138 _ (oI hp174));exact hR _ _ ⟨rfl,hS176.drop.drop⟩
        refine Qs.nil ?_;intro w181 hS182;refine sR 7 td81 ?_;refine sR 1 td82 ?_;exact rF _ (ih135 _ _ hp180 he133 _ _ hS182.drop)
       refine sR 4 td79 ?_;exact rF _ (J125 ((oI hp184).trans he133) _ _ hS130)
      exact rF _ (L137 _ _ hv120 rfl _ _ hS94)
     refine sR 4 td74 ?_;exact rF _ (J76 ((oI hp185).trans he97) _ _ hS94)
    exact rF _ (L101 _ _ hv71 rfl _ _ hS57)
   have L195 : ∀ t186 e190,prog_Valid.l1 a0 t186 = some e190 → e190 = v38 → ∀ l189 w187 (hS188 : St w0 Z (u1::fs) w187),Rn Tryz.prog 21 td71 117 [u2,(61,.slice y2 a0.Regs.length y3),(62,.int .i64 (a0.Regs.length : Int)),(63,.int .i64 t186)] l189 w187 R:=by
    refine prog_Valid.l1.partial_correctness a0 (fun t186 e190 => e190 = v38 → ∀ (l189 : List Value) (w187 : World) (hS188 : St w0 Z (u1::fs) w187),Rn Tryz.prog 21 td71 117 [u2,(61,.slice y2 a0.Regs.length y3),(62,.int .i64 (a0.Regs.length : Int)),(63,.int .i64 t186)] l189 w187 R) ?_;intro rec194 ih193 t186 e190 hb192 he191 l189 w187 hS188;have hq196 : ∀ x,Sum.inr x = e190 → x = q0:=fun x hx => hq43 x (hx.trans he191);refine sI 3 (.inRegion (opsOf (cd21 1000)) []::.code (cd21 1001)::td70) 64 hb192 (fun hp199 => ?_) fun hp219 => ?_
    ·refine sR 8 (.inRegion (opsOf (cd21 16024)) [0,1,2]::.code (cd21 16025)::td86) ?_;obtain ⟨g200,hp201⟩:=ite_some hp199;obtain ⟨b202,p203,cs206,hA204,hr207,hl208,hc205⟩:=y11.at_ g200.1 g200.2;obtain ⟨A209,c210,rfl,hs211⟩:=hr207;refine rX 23 1 (.tmp 61) (.tmp 63) hA204 g200 ?_;refine rL1 24 (.tmp 65) 0 (hc205.cells hS188) ?_;refine sI 7 (.inRegion (opsOf (cd21 32050)) []::.code (cd21 32051)::td86) 69 hp201 (fun hp215 => ?_) fun hp218 => ?_
     ·refine sR 6 (.code (cd21 128205)::td86) ?_;refine rI (cd21 128205) ?_;refine rR (.int .i64 98) Tryz.func21 ?_;cases hq196 _ (oI hp215);exact hR _ _ ⟨rfl,hS188.drop⟩
     refine sR 8 td70 ?_;refine sR 1 td71 ?_;exact rF _ (ih193 _ _ hp218 he191 _ _ hS188)
    refine sR 4 td68 ?_;exact rF _ (J44 ((oI hp219).trans he191) _ _ hS188)
   exact rF _ (L195 _ _ hv39 rfl _ _ hS33)
  have L229 : ∀ t220 e224,prog_Valid.l0 a0 t220 = some e224 → e224 = v29 → ∀ l223 w221 (hS222 : St w0 Z (u1::fs) w221),Rn Tryz.prog 21 td67 117 [u2,(38,.slice y2 a0.Regs.length y3),(39,.int .i64 (a0.Regs.length : Int)),(40,.int .i64 t220)] l223 w221 R:=by
   refine prog_Valid.l0.partial_correctness a0 (fun t220 e224 => e224 = v29 → ∀ (l223 : List Value) (w221 : World) (hS222 : St w0 Z (u1::fs) w221),Rn Tryz.prog 21 td67 117 [u2,(38,.slice y2 a0.Regs.length y3),(39,.int .i64 (a0.Regs.length : Int)),(40,.int .i64 t220)] l223 w221 R) ?_;intro rec228 ih227 t220 e224 hb226 he225 l223 w221 hS222;have hq230 : ∀ x,Sum.inr x = e224 → x = q0:=fun x hx => hq34 x (hx.trans he225);refine sI 3 (.inRegion (opsOf (cd21 488)) []::.code (cd21 489)::td66) 41 hb226 (fun hp233 => ?_) fun hp277 => ?_
   ·refine sR 9 (iR (cd21 7832) 1 4::.code (cd21 7833)::td88) ?_;obtain ⟨g234,hp235⟩:=ite_some hp233;obtain ⟨b236,p237,cs240,hA238,hr241,hl242,hc239⟩:=y11.at_ g234.1 g234.2;obtain ⟨A243,c244,rfl,hs245⟩:=hr241;refine rX 23 1 (.tmp 38) (.tmp 40) hA238 g234 ?_;refine rL1 24 (.tmp 43) 0 (hc239.cells hS222) ?_;refine sR 6 (iR p21_62 1 13::td89) ?_;refine rL1 25 (.tmp 45) 3 (hS222.blk 0 rfl) ?_;refine sR 1 (iR p21_62 3 11::td89) ?_;obtain ⟨g247,hp248⟩:=ite_some hp235;obtain ⟨b249,p250,cs253,hA251,hr254,hl255,hc252⟩:=y13.at_ g247.1 g247.2;obtain ⟨A256,c257,rfl,hs258⟩:=hr254;refine rX 25 1 (.tmp 46) (.tmp 47) hA251 g247 ?_;refine rL1 26 (.tmp 48) 0 (hc252.cells hS222) ?_;refine sI 4 (iR p21_62 9 5::td89) 53 hp248 (fun hp262 => ?_) fun hp265 => ?_
    ·refine sR 11 (.code (cd21 62669)::td88) ?_;refine rI (cd21 62669) ?_;refine rR (.int .i64 92) Tryz.func21 ?_;cases hq230 _ (oI hp262);exact hR _ _ ⟨rfl,hS222.drop⟩
    refine sR 2 (.inRegion (opsOf p21_62) [11,12,13]::td89) ?_;obtain ⟨t266,hr267,hp268⟩:=bind_some' hp265;refine rC (prog_rises.ok hr267 hS222 hs245) ?_;rintro _ w269 ⟨rfl,hS270⟩;refine ⟨_,rfl,?_⟩;refine sI 1 (.inRegion (opsOf p21_62) [13]::td89) 57 hp268 (fun hp273 => ?_) fun hp276 => ?_
    ·refine sR 7 (.code (cd21 62669)::td88) ?_;refine rI (cd21 62669) ?_;refine rR (.int .i64 92) Tryz.func21 ?_;cases hq230 _ (oI hp273);exact hR _ _ ⟨rfl,hS270.drop⟩
    refine sR 9 td66 ?_;refine sR 1 td67 ?_;exact rF _ (ih227 _ _ hp276 he225 _ _ hS270)
   refine sR 4 td64 ?_;exact rF _ (J35 ((oI hp277).trans he225) _ _ hS222)
  exact rF _ (L229 _ _ hv30 rfl _ _ hS3)

noncomputable def cd45 (p : Nat) : Code := sub (bodyOf Tryz.f45) (pth p)
def slices_Clip___api_Ref_api_Ref.f (a0 : List api_Ref) : Option (List api_Ref) :=
  some (a0)
theorem slices_Clip___api_Ref_api_Ref.ok {a0 : List api_Ref} {Aa0 : Option Addr} {ca0 : Nat} {q0 : List api_Ref} (hp0 : slices_Clip___api_Ref_api_Ref.f a0 = some q0) (hS0 : St w0 Z (xrow Aa0 ca0 40 2 (a0.flatMap enc_api_Ref)::fs) w) :
    Calls Tryz.prog 45 #[.slice Aa0 a0.length ca0] w (fun e w' => ∃ (QA0 : Option Addr) (Qc0 : Nat),e = .returned (.slice QA0 q0.length Qc0) ∧ St w0 Z (xrow QA0 Qc0 40 2 (q0.flatMap enc_api_Ref)::fs) w'):=by
  refine calls_abs ?_; intro R hR;unfold slices_Clip___api_Ref_api_Ref.f at hp0;refine c0 Tryz.func45 (cd45 1) 8 ?_;refine sR 11 [.inRegion (opsOf (cd45 6)) [5,6],.code (cd45 7)] ?_;refine rV (.slice 31 (.tmp 3) none (some (.tmp 5)) (some (.tmp 7))) (.slice Aa0 a0.length a0.length) (fun o ho _ => x_cutSl_nss (e:=40) (sz:=2) (A:=Aa0) (n:=a0.length) (c:=ca0) (k:=.i64) (k':=.i64) (by kernel_rfl) (by kernel_rfl) (by kernel_rfl) (by kernel_rfl) (by kernel_rfl) (by omega) ((hS0.row 0 rfl).cap len_api_Ref (by omega)) (clip_eq _ _ _) ho) ?_;have hS2:=hS0.clip len_api_Ref (by omega);refine sR 2 [.code (cd45 7)] ?_;refine rR (.slice Aa0 a0.length a0.length) Tryz.func45 ?_;cases oI hp0;exact hR _ _ ⟨Aa0,a0.length,rfl,hS2⟩

noncomputable def cd23 (p : Nat) : Code := sub (bodyOf Tryz.f23) (pth p)
abbrev td90:=tC (cd23 15) []
abbrev td92:List Item:=.inLoop (cd23 116)::(tB 0 td90)
abbrev td93:=tC (cd23 116) td92
abbrev td94:=tC (cd23 31) []
abbrev td96:List Item:=.inLoop (cd23 244)::(tB 4 td94)
abbrev td97:=tC (cd23 244) td96
abbrev td99:=tB 1 (tC (cd23 935) td92)
abbrev td101:List Item:=.inLoop (cd23 29900)::(tB 2 td99)
abbrev td102:=tC (cd23 29900) td101
def prog_Names.l1 (a0 : api_Prog) (t39 : List api_Ref) (t43 : Int) : Option (List api_Ref) :=
  (if (decide (t43 < (a0.Locs.length : Int))) = true then (if 0 ≤ t43 ∧ t43 < (a0.Locs.length : Int) then (if (t39.length + ([(⟨(-1),(gt a0.Locs t43)⟩ : api_Ref)] : List api_Ref).length) * 24 ≤ 140737488355328 then (prog_Names.l1 a0 (t39 ++ ([(⟨(-1),(gt a0.Locs t43)⟩ : api_Ref)] : List api_Ref)) (IntKind.i64.wrap (t43 + 1))) else none) else none) else some (t39))
 partial_fixpoint
def prog_Names.l2 (a0 : api_Prog) (t81 : Int) (t119 : List api_Ref) (t123 : Int) : Option (List api_Ref) :=
  (if (decide (t123 < ((gt a0.Regs t81).length : Int))) = true then (if 0 ≤ t123 ∧ t123 < ((gt a0.Regs t81).length : Int) then (if (t119.length + ([(⟨t81,(gt (gt a0.Regs t81) t123)⟩ : api_Ref)] : List api_Ref).length) * 24 ≤ 140737488355328 then (prog_Names.l2 a0 t81 (t119 ++ ([(⟨t81,(gt (gt a0.Regs t81) t123)⟩ : api_Ref)] : List api_Ref)) (IntKind.i64.wrap (t123 + 1))) else none) else none) else some (t119))
 partial_fixpoint
def prog_Names.l0 (a0 : api_Prog) (t77 : List api_Ref) (t81 : Int) : Option (List api_Ref) :=
  (if (decide (t81 < (a0.Regs.length : Int))) = true then (if 0 ≤ t81 ∧ t81 < (a0.Regs.length : Int) then (prog_Names.l2 a0 t81 t77 0 >>= (fun t110 => (prog_Names.l0 a0 t110 (IntKind.i64.wrap (t81 + 1))))) else none) else some (t77))
 partial_fixpoint
def prog_Names.f (a0 : api_Prog) : Option (List api_Ref) :=
  (prog_Names.l0 a0 [] 0 >>= (fun t8 => (prog_Names.l1 a0 t8 0 >>= (fun t21 => (slices_Clip___api_Ref_api_Ref.f t21 >>= (fun t30 => some (t30)))))))
theorem prog_Names.ok {a0 : api_Prog} {y0 : Option Addr} {y1 : Nat} {y2 : Option Addr} {y3 : Nat} {y4 : Option Addr} {y5 : Nat} {y6 : Option Addr} {y7 : Nat} {y8 : Option Addr} {y9 : Nat} {q0 : List api_Ref} (hp0 : prog_Names.f a0 = some q0) (hS0 : St w0 Z (fs) w) (y10 : SlZ (repL (flat enc_api_Op) 5) 1 Z y0 y1 a0.Threads) (y11 : SlZ (repL (flat encS) 1) 1 Z y2 y3 a0.Regs) (y12 : SlZ (flat encS) 1 Z y4 y5 a0.Locs) (y13 : SlZ (repL (flat (encI .i64)) 1) 1 Z y6 y7 a0.RegInit) (y14 : SlZ (flat (encI .i64)) 1 Z y8 y9 a0.LocInit) :
    Calls Tryz.prog 23 #[.agg (ce_api_Prog a0 y0 y1 y2 y3 y4 y5 y6 y7 y8 y9).toArray] w (fun e w' => ∃ (QA0 : Option Addr) (Qc0 : Nat),e = .returned (.slice QA0 q0.length Qc0) ∧ St w0 Z (xrow QA0 Qc0 40 2 (q0.flatMap enc_api_Ref)::fs) w'):=by
  let u4 : Nat × Value:=(11,.slice y2 a0.Regs.length y3);let u3 : Nat × Value:=(12,.int .i64 (a0.Regs.length : Int));refine calls_abs ?_; intro R hR;unfold prog_Names.f at hp0;refine c0 Tryz.func23 (cd23 1) 46 ?_;refine sR 2 [.inRegion (opsOf (cd23 2)) [0,1],.code (cd23 3)] ?_;refine rB 28 (.tmp 0) (ce_api_Prog a0 y0 y1 y2 y3 y4 y5 y6 y7 y8 y9) hS0 ?_;intro b1 w2 hS3;let u2 : Nat × Value:=(1,.pointer (some ⟨b1,0,none⟩));let u1:=xblk b1 28 ((ce_api_Prog a0 y0 y1 y2 y3 y4 y5 y6 y7 y8 y9));refine sR 10 (.inRegion (opsOf (cd23 28)) [1,2,3]::.code (cd23 29)::td90) ?_;refine rL1 23 (.tmp 10) 1 (hS3.blk 0 rfl) ?_;refine sR 5 td93 ?_;obtain ⟨v5,hv6,hp7⟩:=bind_some' hp0;have J14 : ∀ t8 (he16 : t8 = v5) l15 A9 c10 w12 (hS13 : St w0 Z (u1::xrow A9 c10 40 2 (t8.flatMap enc_api_Ref)::fs) w12),Rn Tryz.prog 23 td90 47 [u2,(3,.slice A9 t8.length c10)] l15 w12 R:=by
   intro t8 he16 l15 A9 c10 w12 hS13;subst he16;(try dsimp only at hp7);refine sR 4 (.inRegion (opsOf (cd23 60)) [1,2,3]::.code (cd23 61)::td94) ?_;refine rL1 24 (.tmp 32) 2 (hS13.blk 0 rfl) ?_;refine sR 5 td97 ?_;obtain ⟨v18,hv19,hp20⟩:=bind_some' hp7;have J27 : ∀ t21 (he29 : t21 = v18) l28 A22 c23 w25 (hS26 : St w0 Z (xrow A22 c23 40 2 (t21.flatMap enc_api_Ref)::fs) w25),Rn Tryz.prog 23 td94 47 [(3,.slice A22 t21.length c23)] l28 w25 R:=by
    intro t21 he29 l28 A22 c23 w25 hS26;subst he29;(try dsimp only at hp20);refine sR 3 [.inRegion (opsOf (cd23 62)) [1,2],.code (cd23 63)] ?_;obtain ⟨t30,hr33,hp34⟩:=bind_some' hp20;refine rC (slices_Clip___api_Ref_api_Ref.ok hr33 hS26) ?_;rintro _ w36 ⟨Q31,Q32,rfl,hS37⟩;refine ⟨_,rfl,?_⟩;refine sR 2 [.code (cd23 63)] ?_;refine rR (.slice Q31 t30.length Q32) Tryz.func23 ?_;cases oI hp34;exact hR _ _ ⟨Q31,Q32,rfl,hS37⟩
   have L52 : ∀ t39 t43 e47,prog_Names.l1 a0 t39 t43 = some e47 → e47 = v18 → ∀ l46 A40 c41 w44 (hS45 : St w0 Z (xrow A40 c41 40 2 (t39.flatMap enc_api_Ref)::fs) w44),Rn Tryz.prog 23 td97 47 [(3,.slice A40 t39.length c41),(33,.slice y4 a0.Locs.length y5),(34,.int .i64 (a0.Locs.length : Int)),(35,.int .i64 t43)] l46 w44 R:=by
    refine prog_Names.l1.partial_correctness a0 (fun t39 t43 e47 => e47 = v18 → ∀ (l46 : List Value) (A40 : Option Addr) (c41 : Nat) (w44 : World) (hS45 : St w0 Z (xrow A40 c41 40 2 (t39.flatMap enc_api_Ref)::fs) w44),Rn Tryz.prog 23 td97 47 [(3,.slice A40 t39.length c41),(33,.slice y4 a0.Locs.length y5),(34,.int .i64 (a0.Locs.length : Int)),(35,.int .i64 t43)] l46 w44 R) ?_;intro rec51 ih50 t39 t43 e47 hb49 he48 l46 A40 c41 w44 hS45;refine sI 3 (.inRegion (opsOf (cd23 488)) []::.code (cd23 489)::td96) 36 hb49 (fun hp55 => ?_) fun hp76 => ?_
    ·refine sR 8 (.inRegion (opsOf (cd23 7832)) [0,1,2]::.code (cd23 7833)::.inBlock 5::.code (cd23 1959)::td96) ?_;obtain ⟨g56,hp57⟩:=ite_some hp55;obtain ⟨b58,p59,hA60,hc61⟩:=y12.atF g56.1 g56.2;refine rX 24 1 (.tmp 33) (.tmp 35) hA60 g56 ?_;refine rL1 9 (.tmp 37) 0 (hc61.cells hS45) ?_;refine sR 6 (.inRegion (opsOf (cd23 7833)) [3,4,5]::.inBlock 5::.code (cd23 1959)::td96) ?_;refine r_lit (c:=(cd23 7833)) (i:=3) (d:=(some 42)) (ty:=31) (t:=31) (e:=40) (sz:=2) (n:=1) (parts:=#[(0,(.tmp 41))]) (vs:=[(0,.agg (enc_api_Ref (⟨(-1),(gt a0.Locs t43)⟩ : api_Ref)).toArray)]) (z:=zeroOf Tryz.prog 40) (cs':=([(⟨(-1),(gt a0.Locs t43)⟩ : api_Ref)] : List api_Ref).flatMap enc_api_Ref) hS45 (by kernel_rfl) (by kernel_rfl) (by kernel_rfl) (by kernel_rfl) (by kernel_rfl) (by decide) (by decide) (by kernel_rfl) rfl (Parts.cons (c:=enc_api_Ref (⟨(-1),(gt a0.Locs t43)⟩ : api_Ref)) (by kernel_rfl) (len_api_Ref _) Parts.nil) rfl ?_;intro b63 w64 hS65;have hS66:=hS65.pick1;obtain ⟨g67,hp68⟩:=ite_some hp57;refine rAp 40 31 31 (.tmp 39) (.tmp 42) hS66 len_api_Ref one_api_Ref (src_row (hS66.row 1 rfl) (by omega) len_api_Ref) g67 ?_;intro A69 c70 w71 hS72;refine sR 7 td96 ?_;refine sR 1 td97 ?_;exact rF _ (ih50 _ _ _ hp68 he48 _ A69 c70 _ hS72.pick1.drop)
    refine sR 4 td94 ?_;exact rF _ (J27 _ ((oI hp76).trans he48) _ A40 c41 _ hS45)
   exact rF _ (L52 _ _ _ hv19 rfl _ A9 c10 _ hS13.drop)
  have L90 : ∀ t77 t81 e85,prog_Names.l0 a0 t77 t81 = some e85 → e85 = v5 → ∀ l84 A78 c79 w82 (hS83 : St w0 Z (u1::xrow A78 c79 40 2 (t77.flatMap enc_api_Ref)::fs) w82),Rn Tryz.prog 23 td93 47 [u2,(3,.slice A78 t77.length c79),u4,u3,(13,.int .i64 t81)] l84 w82 R:=by
   refine prog_Names.l0.partial_correctness a0 (fun t77 t81 e85 => e85 = v5 → ∀ (l84 : List Value) (A78 : Option Addr) (c79 : Nat) (w82 : World) (hS83 : St w0 Z (u1::xrow A78 c79 40 2 (t77.flatMap enc_api_Ref)::fs) w82),Rn Tryz.prog 23 td93 47 [u2,(3,.slice A78 t77.length c79),u4,u3,(13,.int .i64 t81)] l84 w82 R) ?_;intro rec89 ih88 t77 t81 e85 hb87 he86 l84 A78 c79 w82 hS83;refine sI 3 (.inRegion (opsOf (cd23 232)) []::.code (cd23 233)::td92) 14 hb87 (fun hp93 => ?_) fun hp158 => ?_
   ·refine sR 9 (iR (cd23 3736) 1 4::.code (cd23 3737)::td99) ?_;obtain ⟨g94,hp95⟩:=ite_some hp93;obtain ⟨b96,p97,cs100,hA98,hr101,hl102,hc99⟩:=y11.at_ g94.1 g94.2;obtain ⟨A103,c104,rfl,hs105⟩:=hr101;refine rX 23 1 (.tmp 11) (.tmp 13) hA98 g94 ?_;refine rL1 24 (.tmp 16) 0 (hc99.cells hS83) ?_;refine sR 11 td102 ?_;obtain ⟨v107,hv108,hp109⟩:=bind_some' hp95;have J116 : ∀ t110 (he118 : t110 = v107) l117 A111 c112 w114 (hS115 : St w0 Z (u1::xrow A111 c112 40 2 (t110.flatMap enc_api_Ref)::fs) w114),Rn Tryz.prog 23 td99 47 [u2,(3,.slice A111 t110.length c112),u4,u3,(13,.int .i64 t81)] l117 w114 R:=by
     intro t110 he118 l117 A111 c112 w114 hS115;subst he118;(try dsimp only at hp109);refine sR 5 td92 ?_;refine sR 1 td93 ?_;exact rF _ (ih88 _ _ _ hp109 he86 _ A111 c112 _ hS115)
    have L132 : ∀ t119 t123 e127,prog_Names.l2 a0 t81 t119 t123 = some e127 → e127 = v107 → ∀ l126 A120 c121 w124 (hS125 : St w0 Z (u1::xrow A120 c121 40 2 (t119.flatMap enc_api_Ref)::fs) w124),Rn Tryz.prog 23 td102 47 [u2,(3,.slice A120 t119.length c121),(4,.int .i64 t81),u4,u3,(13,.int .i64 t81),(18,.slice A103 (gt a0.Regs t81).length c104),(19,.int .i64 ((gt a0.Regs t81).length : Int)),(20,.int .i64 t123)] l126 w124 R:=by
     refine prog_Names.l2.partial_correctness a0 t81 (fun t119 t123 e127 => e127 = v107 → ∀ (l126 : List Value) (A120 : Option Addr) (c121 : Nat) (w124 : World) (hS125 : St w0 Z (u1::xrow A120 c121 40 2 (t119.flatMap enc_api_Ref)::fs) w124),Rn Tryz.prog 23 td102 47 [u2,(3,.slice A120 t119.length c121),(4,.int .i64 t81),u4,u3,(13,.int .i64 t81),(18,.slice A103 (gt a0.Regs t81).length c104),(19,.int .i64 ((gt a0.Regs t81).length : Int)),(20,.int .i64 t123)] l126 w124 R) ?_;intro rec131 ih130 t119 t123 e127 hb129 he128 l126 A120 c121 w124 hS125;refine sI 3 (.inRegion (opsOf (cd23 59800)) []::.code (cd23 59801)::td101) 21 hb129 (fun hp135 => ?_) fun hp157 => ?_
     ·refine sR 8 (.inRegion (opsOf (cd23 956824)) [0,1,2]::.code (cd23 956825)::.inBlock 3::.code (cd23 239207)::td101) ?_;obtain ⟨g136,hp137⟩:=ite_some hp135;obtain ⟨b138,p139,hA140,hc141⟩:=hs105.atF g136.1 g136.2;refine rX 24 1 (.tmp 18) (.tmp 20) hA140 g136 ?_;refine rL1 9 (.tmp 22) 0 (hc141.cells hS125) ?_;refine sR 7 (.inRegion (opsOf (cd23 956825)) [4,5,6]::.inBlock 3::.code (cd23 239207)::td101) ?_;refine r_lit (c:=(cd23 956825)) (i:=4) (d:=(some 28)) (ty:=31) (t:=31) (e:=40) (sz:=2) (n:=1) (parts:=#[(0,(.tmp 27))]) (vs:=[(0,.agg (enc_api_Ref (⟨t81,(gt (gt a0.Regs t81) t123)⟩ : api_Ref)).toArray)]) (z:=zeroOf Tryz.prog 40) (cs':=([(⟨t81,(gt (gt a0.Regs t81) t123)⟩ : api_Ref)] : List api_Ref).flatMap enc_api_Ref) hS125 (by kernel_rfl) (by kernel_rfl) (by kernel_rfl) (by kernel_rfl) (by kernel_rfl) (by decide) (by decide) (by kernel_rfl) rfl (Parts.cons (c:=enc_api_Ref (⟨t81,(gt (gt a0.Regs t81) t123)⟩ : api_Ref)) (by kernel_rfl) (len_api_Ref _) Parts.nil) rfl ?_;intro b143 w144 hS145;have hS146:=hS145.pick2;obtain ⟨g147,hp148⟩:=ite_some hp137;refine rAp 40 31 31 (.tmp 24) (.tmp 28) hS146 len_api_Ref one_api_Ref (src_row (hS146.row 1 rfl) (by omega) len_api_Ref) g147 ?_;intro A149 c150 w151 hS152;refine sR 7 td101 ?_;refine sR 1 td102 ?_;exact rF _ (ih130 _ _ _ hp148 he128 _ A149 c150 _ hS152.pick1.drop.pick1)
     refine sR 4 td99 ?_;exact rF _ (J116 _ ((oI hp157).trans he128) _ A120 c121 _ hS125)
    exact rF _ (L132 _ _ _ hv108 rfl _ A78 c79 _ hS83)
   refine sR 4 td90 ?_;exact rF _ (J14 _ ((oI hp158).trans he86) _ A78 c79 _ hS83)
  have hS160:=hS3.nilrow none 40 2;exact rF _ (L90 _ _ _ hv6 rfl _ none 0 _ hS160.pick1)

noncomputable def cd71 (p : Nat) : Code := sub (bodyOf Tryz.f71) (pth p)
abbrev td103:=tC (cd71 7) []
abbrev td104:=tC (cd71 13) td103
abbrev td105:=tC (cd71 15) []
abbrev td107:List Item:=.inLoop (cd71 116)::(tB 0 td105)
abbrev td108:=tC (cd71 116) td107
abbrev td110:=tB 1 (tC (cd71 935) td107)
def state_Check.l0 (a0 : api_Final) (t39 : Int) : Option (Sum Unit Int) :=
  (if (decide (t39 < (((a0.V.toList.take 48).drop a0.N.toNat).length : Int))) = true then (if 0 ≤ t39 ∧ t39 < (((a0.V.toList.take 48).drop a0.N.toNat).length : Int) then (if ((gt ((a0.V.toList.take 48).drop a0.N.toNat) t39) != 0) = true then some (.inr (4)) else (state_Check.l0 a0 (IntKind.i64.wrap (t39 + 1)))) else none) else some (.inl ()))
 partial_fixpoint
def state_Check.f (a0 : api_Final) : Option Int :=
  (if (decide (a0.N < 0)) = true then some (4) else (if (decide (a0.N > 48)) = true then some (4) else (if 0 ≤ a0.N ∧ a0.N ≤ 48 then (state_Check.l0 a0 0 >>= (fun | .inl () => some (0) | .inr e => some e)) else none)))
theorem state_Check.ok {a0 : api_Final} {q0 : Int} (hp0 : state_Check.f a0 = some q0) (hS0 : St w0 Z (fs) w) :
    Calls Tryz.prog 71 #[.agg (enc_api_Final a0).toArray] w (fun e w' => e = .returned (.int .i64 q0) ∧ St w0 Z (fs) w'):=by
  let u1 : Nat × Value:=(17,.int .i64 (((a0.V.toList.take 48).drop a0.N.toNat).length : Int));refine calls_abs ?_; intro R hR;unfold state_Check.f at hp0;refine c0 Tryz.func71 (cd71 1) 24 ?_;refine sR 2 [.inRegion (opsOf (cd71 2)) [0,1],.code (cd71 3)] ?_;refine rB 38 (.tmp 0) (enc_api_Final a0) hS0 ?_;intro b1 w2 hS3;refine sR 6 (iR (cd71 12) 1 7::td104) ?_;refine rL1 3 (.tmp 5) 0 (hS3.blk 0 rfl) ?_;refine sI 1 (iR (cd71 12) 3 5::td104) 7 hp0 (fun hp7 => ?_) fun hp10 => ?_
  ·refine sR 11 (.code (cd71 53)::td103) ?_;refine rR (.int .i64 4) Tryz.func71 ?_;cases oI hp7;exact hR _ _ ⟨rfl,hS3.drop⟩
  refine sR 2 (.inRegion (opsOf (cd71 12)) [5,6,7]::td104) ?_;refine rL1 3 (.tmp 9) 0 (hS3.blk 0 rfl) ?_;refine sI 1 (.inRegion (opsOf (cd71 12)) [7]::td104) 11 hp10 (fun hp13 => ?_) fun hp16 => ?_
  ·refine sR 7 (.code (cd71 53)::td103) ?_;refine rR (.int .i64 4) Tryz.func71 ?_;cases oI hp13;exact hR _ _ ⟨rfl,hS3.drop⟩
  refine sR 9 (iR (cd71 28) 2 4::.code (cd71 29)::td105) ?_;refine rL1 3 (.tmp 14) 0 (hS3.blk 0 rfl) ?_;obtain ⟨Z17,hz18,hS19,hs20,-⟩:=hS3.lendblk;obtain ⟨g21,hp22⟩:=ite_some hp16;obtain ⟨A23,c24,hr25,hs26⟩:=cutArrZ (zsub_api_Final_V hs20) (len_encI .i64) a0.N.toNat 48 (by omega) (by omega) (by omega);let u2 : Nat × Value:=(16,.slice A23 ((a0.V.toList.take 48).drop a0.N.toNat).length c24);refine rV (.slice 36 (.tmp 13) (some (.tmp 15)) none none) (.slice A23 ((a0.V.toList.take 48).drop a0.N.toNat).length c24) (fun o ho _ => x_cutArr_sn (e:=2) (k:=.i64) (by kernel_rfl) (by kernel_rfl) (by kernel_rfl) (by kernel_rfl) g21 hr25 ho) ?_;refine sR 5 td108 ?_;obtain ⟨v28,hv29,hp30⟩:=bind_some' hp22;have hq33 : ∀ x,Sum.inr x = v28 → x = q0:=by intro x hx; subst hx; simpa using hp30
  have J34 : ∀ (he36 : Sum.inl () = v28) l35 w31 (hS32 : St w0 Z17 (fs) w31),Rn Tryz.prog 71 td105 25 [] l35 w31 R:=by
   intro he36 l35 w31 hS32;subst he36;(try dsimp only at hp30);refine sR 4 [.code (cd71 31)] ?_;have hS37:=hS32.less hz18;refine rR (.int .i64 0) Tryz.func71 ?_;cases oI hp30;exact hR _ _ ⟨rfl,hS37⟩
  have L48 : ∀ t39 e43,state_Check.l0 a0 t39 = some e43 → e43 = v28 → ∀ l42 w40 (hS41 : St w0 Z17 (fs) w40),Rn Tryz.prog 71 td108 25 [u2,u1,(18,.int .i64 t39)] l42 w40 R:=by
   refine state_Check.l0.partial_correctness a0 (fun t39 e43 => e43 = v28 → ∀ (l42 : List Value) (w40 : World) (hS41 : St w0 Z17 (fs) w40),Rn Tryz.prog 71 td108 25 [u2,u1,(18,.int .i64 t39)] l42 w40 R) ?_;intro rec47 ih46 t39 e43 hb45 he44 l42 w40 hS41;have hq49 : ∀ x,Sum.inr x = e43 → x = q0:=fun x hx => hq33 x (hx.trans he44);refine sI 3 (.inRegion (opsOf (cd71 232)) []::.code (cd71 233)::td107) 19 hb45 (fun hp52 => ?_) fun hp65 => ?_
   ·refine sR 8 (.inRegion (opsOf (cd71 3736)) [0,1,2]::.code (cd71 3737)::td110) ?_;obtain ⟨g53,hp54⟩:=ite_some hp52;obtain ⟨b55,p56,hA57,hc58⟩:=hs26.atF g53.1 g53.2;refine rX 26 1 (.tmp 16) (.tmp 18) hA57 g53 ?_;refine rL1 2 (.tmp 20) 0 (hc58.cells hS41) ?_;refine sI 6 (.inRegion (opsOf (cd71 7474)) []::.code (cd71 7475)::td110) 23 hp54 (fun hp61 => ?_) fun hp64 => ?_
    ·refine sR 6 (.code (cd71 29901)::td110) ?_;refine rI (cd71 29901) ?_;have hS62:=hS41.less hz18;refine rR (.int .i64 4) Tryz.func71 ?_;cases hq49 _ (oI hp61);exact hR _ _ ⟨rfl,hS62⟩
    refine sR 8 td107 ?_;refine sR 1 td108 ?_;exact rF _ (ih46 _ _ hp64 he44 _ _ hS41)
   refine sR 4 td105 ?_;exact rF _ (J34 ((oI hp65).trans he44) _ _ hS41)
  exact rF _ (L48 _ _ hv29 rfl _ _ hS19)

noncomputable def cd143 (p : Nat) : Code := sub (bodyOf Tryz.f143) (pth p)
def cmp_isNaN_int64.f (a0 : Int) : Option Bool :=
  (if (a0 != a0) = true then some (true) else some (false))
theorem cmp_isNaN_int64.ok {a0 : Int} {q0 : Bool} (hp0 : cmp_isNaN_int64.f a0 = some q0) (hS0 : St w0 Z (fs) w) :
    Calls Tryz.prog 143 #[.int .i64 a0] w (fun e w' => e = .returned (.bool q0) ∧ St w0 Z (fs) w'):=by
  refine calls_abs ?_; intro R hR;unfold cmp_isNaN_int64.f at hp0;refine c0 Tryz.func143 (cd143 1) 5 ?_;refine sI 9 [.inRegion (opsOf (cd143 6)) [3],.code (cd143 7)] 5 hp0 (fun hp3 => ?_) fun hp5 => ?_
  ·refine sR 2 [.code (cd143 7)] ?_;refine rR (.bool true) Tryz.func143 ?_;cases oI hp3;exact hR _ _ ⟨rfl,hS0⟩
  refine sR 2 [.code (cd143 7)] ?_;refine rR (.bool false) Tryz.func143 ?_;cases oI hp5;exact hR _ _ ⟨rfl,hS0⟩

noncomputable def cd124 (p : Nat) : Code := sub (bodyOf Tryz.f124) (pth p)
def cmp_Compare_int64.f (a0 a1 : Int) : Option Int :=
  (cmp_isNaN_int64.f a0 >>= (fun t1 => (cmp_isNaN_int64.f a1 >>= (fun t6 => (if t1 = true then (if t6 = true then some (0) else some ((-1))) else (if t6 = true then some (1) else (if (decide (a0 < a1)) = true then some ((-1)) else (if (decide (a0 > a1)) = true then some (1) else some (0)))))))))
theorem cmp_Compare_int64.ok {a0 a1 q0 : Int} (hp0 : cmp_Compare_int64.f a0 a1 = some q0) (hS0 : St w0 Z (fs) w) :
    Calls Tryz.prog 124 #[.int .i64 a0,.int .i64 a1] w (fun e w' => e = .returned (.int .i64 q0) ∧ St w0 Z (fs) w'):=by
  refine calls_abs ?_; intro R hR;unfold cmp_Compare_int64.f at hp0;refine c0 Tryz.func124 (cd124 1) 18 ?_;refine sR 7 [.inRegion (opsOf (cd124 6)) [1,2],.code (cd124 7)] ?_;obtain ⟨t1,hr2,hp3⟩:=bind_some' hp0;refine rC (cmp_isNaN_int64.ok hr2 hS0) ?_;rintro _ w4 ⟨rfl,hS5⟩;refine ⟨_,rfl,?_⟩;refine sR 5 [.inRegion (opsOf (cd124 14)) [1,2],.code (cd124 15)] ?_;obtain ⟨t6,hr7,hp8⟩:=bind_some' hp3;refine rC (cmp_isNaN_int64.ok hr7 hS5) ?_;rintro _ w9 ⟨rfl,hS10⟩;refine ⟨_,rfl,?_⟩;refine sR 7 [.code (cd124 61),.code (cd124 31)] ?_;cases t1
  ·have hp11:=ite_f hp8 rfl;refine sR 7 [.code (cd124 125),.code (cd124 63)] ?_;cases t6
   ·have hp12:=ite_f hp11 rfl;refine sI 8 [.inRegion (opsOf (cd124 252)) [],.code (cd124 253),.code (cd124 127)] 16 hp12 (fun hp15 => ?_) fun hp17 => ?_
    ·refine sR 6 [.code (cd124 1013),.code (cd124 127)] ?_;refine rR (.int .i64 (-1)) Tryz.func124 ?_;cases oI hp15;exact hR _ _ ⟨rfl,hS10⟩
    refine sI 9 [.inRegion (opsOf (cd124 508)) [],.code (cd124 509),.code (cd124 255)] 19 hp17 (fun hp20 => ?_) fun hp22 => ?_
    ·refine sR 6 [.code (cd124 2037),.code (cd124 255)] ?_;refine rR (.int .i64 1) Tryz.func124 ?_;cases oI hp20;exact hR _ _ ⟨rfl,hS10⟩
    refine sR 7 [.code (cd124 511)] ?_;refine rR (.int .i64 0) Tryz.func124 ?_;cases oI hp22;exact hR _ _ ⟨rfl,hS10⟩
   have hp24:=ite_t hp11 rfl;refine sR 5 [.code (cd124 501),.code (cd124 63)] ?_;refine rR (.int .i64 1) Tryz.func124 ?_;cases oI hp24;exact hR _ _ ⟨rfl,hS10⟩
  have hp26:=ite_t hp8 rfl;refine sR 6 [.code (cd124 489),.code (cd124 245),.code (cd124 31)] ?_;cases t6
  ·have hp27:=ite_f hp26 rfl;refine sR 6 [.code (cd124 491),.code (cd124 31)] ?_;refine rR (.int .i64 (-1)) Tryz.func124 ?_;cases oI hp27;exact hR _ _ ⟨rfl,hS10⟩
  have hp29:=ite_t hp26 rfl;refine sR 5 [.code (cd124 1957),.code (cd124 245),.code (cd124 31)] ?_;refine rR (.int .i64 0) Tryz.func124 ?_;cases oI hp29;exact hR _ _ ⟨rfl,hS10⟩

noncomputable def cd96 (p : Nat) : Code := sub (bodyOf Tryz.f96) (pth p)
abbrev td111:=tC (cd96 7) []
abbrev td113:List Item:=.inLoop (cd96 52)::(tB 0 td111)
abbrev td114:=tC (cd96 52) td113
abbrev td116:=tB 1 (tC (cd96 423) td113)
def slices_Compare___int64_int64.l0 (a0 a1 : List Int) (t16 : Int) : Option (Sum Unit Int) :=
  (if (decide (t16 < (a0.length : Int))) = true then (if 0 ≤ t16 ∧ t16 < (a0.length : Int) then (if (decide (t16 ≥ (a1.length : Int))) = true then some (.inr (1)) else (if 0 ≤ t16 ∧ t16 < (a1.length : Int) then (cmp_Compare_int64.f (gt a0 t16) (gt a1 t16) >>= (fun t47 => (if (t47 != 0) = true then some (.inr (t47)) else (slices_Compare___int64_int64.l0 a0 a1 (IntKind.i64.wrap (t16 + 1)))))) else none)) else none) else some (.inl ()))
 partial_fixpoint
def slices_Compare___int64_int64.f (a0 a1 : List Int) : Option Int :=
  (slices_Compare___int64_int64.l0 a0 a1 0 >>= (fun | .inl () => (if (decide ((a0.length : Int) < (a1.length : Int))) = true then some ((-1)) else some (0)) | .inr e => some e))
theorem slices_Compare___int64_int64.ok {a0 a1 : List Int} {Aa0 : Option Addr} {ca0 : Nat} {Aa1 : Option Addr} {ca1 : Nat} {q0 : Int} (hp0 : slices_Compare___int64_int64.f a0 a1 = some q0) (hS0 : St w0 Z (fs) w) (ha0 : SlZ (flat (encI .i64)) 1 Z Aa0 ca0 a0) (ha1 : SlZ (flat (encI .i64)) 1 Z Aa1 ca1 a1) :
    Calls Tryz.prog 96 #[.slice Aa0 a0.length ca0,.slice Aa1 a1.length ca1] w (fun e w' => e = .returned (.int .i64 q0) ∧ St w0 Z (fs) w'):=by
  refine calls_abs ?_; intro R hR;unfold slices_Compare___int64_int64.f at hp0;refine c0 Tryz.func96 (cd96 1) 34 ?_;refine sR 13 td114 ?_;obtain ⟨v1,hv2,hp3⟩:=bind_some' hp0;have hq6 : ∀ x,Sum.inr x = v1 → x = q0:=by intro x hx; subst hx; simpa using hp3
  have J7 : ∀ (he9 : Sum.inl () = v1) l8 w4 (hS5 : St w0 Z (fs) w4),Rn Tryz.prog 96 td111 36 [(0,.slice Aa0 a0.length ca0),(1,.slice Aa1 a1.length ca1)] l8 w4 R:=by
   intro he9 l8 w4 hS5;subst he9;(try dsimp only at hp3);refine sI 8 [.inRegion (opsOf (cd96 28)) [],.code (cd96 29),.code (cd96 15)] 35 hp3 (fun hp12 => ?_) fun hp14 => ?_
   ·refine sR 6 [.code (cd96 117),.code (cd96 15)] ?_;refine rR (.int .i64 (-1)) Tryz.func96 ?_;cases oI hp12;exact hR _ _ ⟨rfl,hS5⟩
   refine sR 7 [.code (cd96 31)] ?_;refine rR (.int .i64 0) Tryz.func96 ?_;cases oI hp14;exact hR _ _ ⟨rfl,hS5⟩
  have L25 : ∀ t16 e20,slices_Compare___int64_int64.l0 a0 a1 t16 = some e20 → e20 = v1 → ∀ l19 w17 (hS18 : St w0 Z (fs) w17),Rn Tryz.prog 96 td114 36 [(0,.slice Aa0 a0.length ca0),(1,.slice Aa1 a1.length ca1),(9,.slice Aa0 a0.length ca0),(10,.int .i64 (a0.length : Int)),(11,.int .i64 t16)] l19 w17 R:=by
   refine slices_Compare___int64_int64.l0.partial_correctness a0 a1 (fun t16 e20 => e20 = v1 → ∀ (l19 : List Value) (w17 : World) (hS18 : St w0 Z (fs) w17),Rn Tryz.prog 96 td114 36 [(0,.slice Aa0 a0.length ca0),(1,.slice Aa1 a1.length ca1),(9,.slice Aa0 a0.length ca0),(10,.int .i64 (a0.length : Int)),(11,.int .i64 t16)] l19 w17 R) ?_;intro rec24 ih23 t16 e20 hb22 he21 l19 w17 hS18;have hq26 : ∀ x,Sum.inr x = e20 → x = q0:=fun x hx => hq6 x (hx.trans he21);refine sI 3 (.inRegion (opsOf (cd96 104)) []::.code (cd96 105)::td113) 12 hb22 (fun hp29 => ?_) fun hp57 => ?_
   ·refine sR 9 (iR (cd96 1688) 1 4::.code (cd96 1689)::td116) ?_;obtain ⟨g30,hp31⟩:=ite_some hp29;obtain ⟨b32,p33,hA34,hc35⟩:=ha0.atF g30.1 g30.2;refine rX 26 1 (.tmp 9) (.tmp 11) hA34 g30 ?_;refine rL1 2 (.tmp 14) 0 (hc35.cells hS18) ?_;refine sI 10 (.inRegion (opsOf (cd96 6756)) []::.code (cd96 6757)::.code (cd96 3379)::td116) 19 hp31 (fun hp38 => ?_) fun hp40 => ?_
    ·refine sR 6 (.code (cd96 27029)::.code (cd96 3379)::td116) ?_;refine rI (cd96 27029) ?_;refine rR (.int .i64 1) Tryz.func96 ?_;cases hq26 _ (oI hp38);exact hR _ _ ⟨rfl,hS18⟩
    refine sR 7 (.inRegion (opsOf (cd96 6758)) [2,3,4]::.code (cd96 6759)::td116) ?_;obtain ⟨g41,hp42⟩:=ite_some hp40;obtain ⟨b43,p44,hA45,hc46⟩:=ha1.atF g41.1 g41.2;refine rX 26 1 (.tmp 20) (.tmp 21) hA45 g41 ?_;refine rL1 2 (.tmp 22) 0 (hc46.cells hS18) ?_;refine sR 6 (.inRegion (opsOf (cd96 13518)) [2,3]::.code (cd96 13519)::td116) ?_;obtain ⟨t47,hr48,hp49⟩:=bind_some' hp42;refine rC (cmp_Compare_int64.ok hr48 hS18) ?_;rintro _ w50 ⟨rfl,hS51⟩;refine ⟨_,rfl,?_⟩;refine sI 6 (.inRegion (opsOf (cd96 27038)) []::.code (cd96 27039)::td116) 28 hp49 (fun hp54 => ?_) fun hp56 => ?_
    ·refine sR 7 (.code (cd96 108157)::td116) ?_;refine rI (cd96 108157) ?_;refine rR (.int .i64 t47) Tryz.func96 ?_;cases hq26 _ (oI hp54);exact hR _ _ ⟨rfl,hS51⟩
    refine sR 8 td113 ?_;refine sR 1 td114 ?_;exact rF _ (ih23 _ _ hp56 he21 _ _ hS51)
   refine sR 4 td111 ?_;exact rF _ (J7 ((oI hp57).trans he21) _ _ hS18)
  exact rF _ (L25 _ _ hv2 rfl _ _ hS0)

noncomputable def cd72 (p : Nat) : Code := sub (bodyOf Tryz.f72) (pth p)
abbrev td118:=tB 0 (tC (cd72 7) [])
abbrev td119:=tC (cd72 25) td118
abbrev td120:=tC (cd72 103) td118
def state_Compare.f (a0 a1 : api_Final) : Option Int :=
  (if (decide (a0.N < a1.N)) = true then some ((-1)) else (if (decide (a0.N > a1.N)) = true then some (1) else (slices_Compare___int64_int64.f ((a0.V.toList.take 48).drop 0) ((a1.V.toList.take 48).drop 0) >>= (fun t42 => some (t42)))))
theorem state_Compare.ok {a0 a1 : api_Final} {q0 : Int} (hp0 : state_Compare.f a0 a1 = some q0) (hS0 : St w0 Z (fs) w) :
    Calls Tryz.prog 72 #[.agg (enc_api_Final a0).toArray,.agg (enc_api_Final a1).toArray] w (fun e w' => e = .returned (.int .i64 q0) ∧ St w0 Z (fs) w'):=by
  refine calls_abs ?_; intro R hR;unfold state_Compare.f at hp0;refine c0 Tryz.func72 (cd72 1) 20 ?_;refine sR 2 [.inRegion (opsOf (cd72 2)) [0,1,2],.code (cd72 3)] ?_;refine rB 38 (.tmp 0) (enc_api_Final a0) hS0 ?_;intro b1 w2 hS3;refine rB 38 (.tmp 1) (enc_api_Final a1) hS3 ?_;intro b5 w6 hS7;refine sR 7 (iR (cd72 24) 1 5::td119) ?_;refine rL1 3 (.tmp 6) 0 (hS7.blk 1 rfl) ?_;refine sR 1 (.inRegion (opsOf (cd72 24)) [3,4,5]::td119) ?_;refine rL1 3 (.tmp 8) 0 (hS7.blk 0 rfl) ?_;refine sI 1 (.inRegion (opsOf (cd72 24)) [5]::td119) 10 hp0 (fun hp11 => ?_) fun hp15 => ?_
  ·refine sR 7 (.code (cd72 101)::td118) ?_;refine rR (.int .i64 (-1)) Tryz.func72 ?_;cases oI hp11;exact hR _ _ ⟨rfl,hS7.drop.drop⟩
  refine sR 6 (iR (cd72 102) 1 5::td120) ?_;refine rL1 3 (.tmp 12) 0 (hS7.blk 1 rfl) ?_;refine sR 1 (.inRegion (opsOf (cd72 102)) [3,4,5]::td120) ?_;refine rL1 3 (.tmp 14) 0 (hS7.blk 0 rfl) ?_;refine sI 1 (.inRegion (opsOf (cd72 102)) [5]::td120) 16 hp15 (fun hp18 => ?_) fun hp22 => ?_
  ·refine sR 7 (.code (cd72 413)::td118) ?_;refine rR (.int .i64 1) Tryz.func72 ?_;cases oI hp18;exact hR _ _ ⟨rfl,hS7.drop.drop⟩
  refine sR 6 [.code (cd72 14),.code (cd72 15)] ?_;obtain ⟨Z24,hz25,hS26,hs27,-⟩:=hS7.pick1.lendblk;obtain ⟨Z28,hz29,hS30,hs31,-⟩:=hS26.lendblk;refine rQ hS30 (cd72 14) 5 [0,1,2,3,4,5] ?_;refine qR 1 (rg 1 5) ?_;obtain ⟨A32,c33,hr34,hs35⟩:=cutArrZ (zsub_api_Final_V (hs27.mono hz29)) (len_encI .i64) 0 48 (by omega) (by omega) (by omega);refine qV (.slice 36 (.tmp 17) none none none) (.slice A32 ((a0.V.toList.take 48).drop 0).length c33) (fun w hC o ho _ => x_cutArr_nn (e:=2) (by kernel_rfl)  (by kernel_rfl) (by kernel_rfl) hr34 ho) ?_;refine qR 1 [3,4,5] ?_;obtain ⟨A37,c38,hr39,hs40⟩:=cutArrZ (zsub_api_Final_V hs31) (len_encI .i64) 0 48 (by omega) (by omega) (by omega);refine qV (.slice 36 (.tmp 19) none none none) (.slice A37 ((a1.V.toList.take 48).drop 0).length c38) (fun w hC o ho _ => x_cutArr_nn (e:=2) (by kernel_rfl)  (by kernel_rfl) (by kernel_rfl) hr39 ho) ?_;obtain ⟨t42,hr43,hp44⟩:=bind_some' hp22;refine q_call1 (c:=(cd72 14)) (i:=4) (d:=(some 21)) (v:=.int .i64 t42) (g:=96) (args:=#[.slice A32 ((a0.V.toList.take 48).drop 0).length c33,.slice A37 ((a1.V.toList.take 48).drop 0).length c38]) (by kernel_rfl) (by kernel_rfl) (by kernel_rfl) (by kernel_rfl) (fun w hC => by
   refine (slices_Compare___int64_int64.ok hr43 hC hs35 hs40).mono ?_;rintro e w2 ⟨rfl,h2⟩;exact ⟨rfl,h2⟩) ?_
  refine qR 1 [] ?_;refine Qs.nil ?_;intro w45 hS46;have hS47:=hS46.less (Zm.Le.trans hz25 hz29);refine rR (.int .i64 t42) Tryz.func72 ?_;cases oI hp44;exact hR _ _ ⟨rfl,hS47⟩

noncomputable def cd42 (p : Nat) : Code := sub (bodyOf Tryz.f42) (pth p)
abbrev p42_8:=cd42 3378
abbrev td121:=tC (cd42 7) []
abbrev td123:List Item:=.inLoop (cd42 52)::(tB 0 td121)
abbrev td124:=tC (cd42 52) td123
abbrev td126:=tB 1 (tC (cd42 423) td123)
def state_Rises.l0 (a0 : List api_Final) (t11 : Int) : Option (Sum Unit Bool) :=
  (if (decide (t11 < (a0.length : Int))) = true then (if 0 ≤ t11 ∧ t11 < (a0.length : Int) then (state_Check.f (gt a0 t11) >>= (fun t37 => (if (t37 != 0) = true then some (.inr (false)) else (if (decide (t11 > 0)) = true then (if 0 ≤ (IntKind.i64.wrap (t11 - 1)) ∧ (IntKind.i64.wrap (t11 - 1)) < (a0.length : Int) then (state_Compare.f (gt a0 (IntKind.i64.wrap (t11 - 1))) (gt a0 t11) >>= (fun t57 => (if (decide (t57 ≥ 0)) = true then some (.inr (false)) else (state_Rises.l0 a0 (IntKind.i64.wrap (t11 + 1)))))) else none) else (state_Rises.l0 a0 (IntKind.i64.wrap (t11 + 1))))))) else none) else some (.inl ()))
 partial_fixpoint
def state_Rises.f (a0 : List api_Final) : Option Bool :=
  (state_Rises.l0 a0 0 >>= (fun | .inl () => some (true) | .inr e => some e))
theorem state_Rises.ok {a0 : List api_Final} {Aa0 : Option Addr} {ca0 : Nat} {q0 : Bool} (hp0 : state_Rises.f a0 = some q0) (hS0 : St w0 Z (fs) w) (ha0 : SlZ (flat enc_api_Final) 49 Z Aa0 ca0 a0) :
    Calls Tryz.prog 42 #[.slice Aa0 a0.length ca0] w (fun e w' => e = .returned (.bool q0) ∧ St w0 Z (fs) w'):=by
  refine calls_abs ?_; intro R hR;unfold state_Rises.f at hp0;refine c0 Tryz.func42 (cd42 1) 29 ?_;refine sR 13 td124 ?_;obtain ⟨v1,hv2,hp3⟩:=bind_some' hp0;have hq6 : ∀ x,Sum.inr x = v1 → x = q0:=by intro x hx; subst hx; simpa using hp3
  have J7 : ∀ (he9 : Sum.inl () = v1) l8 w4 (hS5 : St w0 Z (fs) w4),Rn Tryz.prog 42 td121 30 [] l8 w4 R:=by
   intro he9 l8 w4 hS5;subst he9;(try dsimp only at hp3);refine sR 4 [.code (cd42 15)] ?_;refine rR (.bool true) Tryz.func42 ?_;cases oI hp3;exact hR _ _ ⟨rfl,hS5⟩
  have L20 : ∀ t11 e15,state_Rises.l0 a0 t11 = some e15 → e15 = v1 → ∀ l14 w12 (hS13 : St w0 Z (fs) w12),Rn Tryz.prog 42 td124 30 [(0,.slice Aa0 a0.length ca0),(5,.slice Aa0 a0.length ca0),(6,.int .i64 (a0.length : Int)),(7,.int .i64 t11)] l14 w12 R:=by
   refine state_Rises.l0.partial_correctness a0 (fun t11 e15 => e15 = v1 → ∀ (l14 : List Value) (w12 : World) (hS13 : St w0 Z (fs) w12),Rn Tryz.prog 42 td124 30 [(0,.slice Aa0 a0.length ca0),(5,.slice Aa0 a0.length ca0),(6,.int .i64 (a0.length : Int)),(7,.int .i64 t11)] l14 w12 R) ?_;intro rec19 ih18 t11 e15 hb17 he16 l14 w12 hS13;have hq21 : ∀ x,Sum.inr x = e15 → x = q0:=fun x hx => hq6 x (hx.trans he16);refine sI 3 (.inRegion (opsOf (cd42 104)) []::.code (cd42 105)::td123) 8 hb17 (fun hp24 => ?_) fun hp75 => ?_
   ·refine sR 9 (iR (cd42 1688) 1 5::.code (cd42 1689)::td126) ?_;obtain ⟨g25,hp26⟩:=ite_some hp24;obtain ⟨b27,p28,hA29,hc30⟩:=ha0.atF g25.1 g25.2;refine rX 51 49 (.tmp 5) (.tmp 7) hA29 g25 ?_;refine rL 38 (.tmp 10) (loads_agg (hc30.cells hS13) (by kernel_rfl) (lenK (len_api_Final _) (by kernel_rfl))) ?_;refine rA 38 (.agg (enc_api_Final (⟨0,(Vector.replicate 48 0)⟩ : api_Final)).toArray) (enc_api_Final (⟨0,(Vector.replicate 48 0)⟩ : api_Final)) hS13 ?_;intro b31 w32 hS33;refine sR 1 (.inRegion (opsOf (cd42 1688)) [5]::.code (cd42 1689)::td126) ?_;refine r_store (c:=(cd42 1688)) (i:=5) (d:=none) (ty:=0) (t:=38) (x:=(.tmp 4)) (y:=(.tmp 11)) (b:=b31) (o:=0) (e:=38) (cs:=enc_api_Final (⟨0,(Vector.replicate 48 0)⟩ : api_Final)) (v:=.agg (enc_api_Final (gt a0 t11)).toArray) (vs:=enc_api_Final (gt a0 t11)) (cs':=enc_api_Final (gt a0 t11)) hS33 (by kernel_rfl) (by kernel_rfl) (by kernel_rfl) (by kernel_rfl) (by kernel_rfl) (lenK (len_api_Final _) (by kernel_rfl)) (one_api_Final _) (by simp only [len_api_Final,List.length_cons,List.length_nil,List.length_append]; omega) (over_all ((len_api_Final _).trans (len_api_Final _).symm)) ?_;intro w35 hS36;refine sR 2 (.code p42_8::.code (cd42 3379)::td126) ?_;refine rQ hS36 p42_8 4 [0,1,2,3,4,5,6,7,8,9,10,11,12,13,14,15,16] ?_;refine qL 38 (.tmp 4) (fun w hC => (loads_agg (hC.blk 0 rfl) (by kernel_rfl) (lenK (len_api_Final _) (by kernel_rfl)))) ?_;obtain ⟨t37,hr38,hp39⟩:=bind_some' hp26;refine q_call1 (c:=p42_8) (i:=1) (d:=(some 13)) (v:=.int .i64 t37) (g:=71) (args:=#[.agg (enc_api_Final (gt a0 t11)).toArray]) (by kernel_rfl) (by kernel_rfl) (by kernel_rfl) (by kernel_rfl) (fun w hC => by
     refine (state_Check.ok hr38 hC).mono ?_;rintro e w2 ⟨rfl,h2⟩;exact ⟨rfl,h2⟩) ?_
    refine qI 1 (rg 3 14) 14 hp39 (fun hp42 => ?_) fun hp47 => ?_
    ·refine qR 14 [] ?_;refine Qs.nil ?_;intro w43 hS44;refine sR 5 (.code (cd42 13517)::td126) ?_;refine rI (cd42 13517) ?_;refine rR (.bool false) Tryz.func42 ?_;cases hq21 _ (oI hp42);exact hR _ _ ⟨rfl,hS44.drop⟩
    refine qI 3 (rg 6 11) 17 hp47 (fun hp50 => ?_) fun hp71 => ?_
    ·refine qR 4 (rg 10 7) ?_;obtain ⟨g51,hp52⟩:=ite_some hp50;obtain ⟨b53,p54,hA55,hc56⟩:=ha0.atF g51.1 g51.2;refine qX 51 49 (.tmp 19) (.tmp 21) hA55 g51 ?_;refine qL 38 (.tmp 22) (fun w hC => (loads_agg (hc56.cells hC) (by kernel_rfl) (lenK (len_api_Final _) (by kernel_rfl)))) ?_;refine qL 38 (.tmp 4) (fun w hC => (loads_agg (hC.blk 0 rfl) (by kernel_rfl) (lenK (len_api_Final _) (by kernel_rfl)))) ?_;obtain ⟨t57,hr58,hp59⟩:=bind_some' hp52;refine q_call1 (c:=p42_8) (i:=13) (d:=(some 25)) (v:=.int .i64 t57) (g:=72) (args:=#[.agg (enc_api_Final (gt a0 (IntKind.i64.wrap (t11 - 1)))).toArray,.agg (enc_api_Final (gt a0 t11)).toArray]) (by kernel_rfl) (by kernel_rfl) (by kernel_rfl) (by kernel_rfl) (fun w hC => by
      refine (state_Compare.ok hr58 hC).mono ?_;rintro e w2 ⟨rfl,h2⟩;exact ⟨rfl,h2⟩) ?_
     refine qI 1 [15,16] 26 hp59 (fun hp62 => ?_) fun hp67 => ?_
     ·refine qR 2 [] ?_;refine Qs.nil ?_;intro w63 hS64;refine sR 5 (.code (cd42 13517)::td126) ?_;refine rI (cd42 13517) ?_;refine rR (.bool false) Tryz.func42 ?_;cases hq21 _ (oI hp62);exact hR _ _ ⟨rfl,hS64.drop⟩
     refine qR 2 [] ?_;refine Qs.nil ?_;intro w68 hS69;refine sR 7 td123 ?_;refine sR 1 td124 ?_;exact rF _ (ih18 _ _ hp67 he16 _ _ hS69.drop)
    refine qR 11 [] ?_;refine Qs.nil ?_;intro w72 hS73;refine sR 7 td123 ?_;refine sR 1 td124 ?_;exact rF _ (ih18 _ _ hp71 he16 _ _ hS73.drop)
   refine sR 4 td121 ?_;exact rF _ (J7 ((oI hp75).trans he16) _ _ hS13)
  exact rF _ (L20 _ _ hv2 rfl _ _ hS0)

noncomputable def cd44 (p : Nat) : Code := sub (bodyOf Tryz.f44) (pth p)
def verdict_fits_1.f (a0 : api_Final) (a1v : Int) : Option Bool :=
  (if (a0.N != a1v) = true then some (true) else some (false))
theorem verdict_fits_1.ok {a0 : api_Final} {a1v : Int} {ba1 : Nat} {q0 : Bool} (hp0 : verdict_fits_1.f a0 a1v = some q0) (hS0 : St w0 Z (xblk ba1 3 ([.int .i64 a1v])::fs) w) :
    Calls Tryz.prog 44 #[.agg (enc_api_Final a0).toArray,.pointer (some ⟨ba1,0,none⟩)] w (fun e w' => e = .returned (.bool q0) ∧ St w0 Z (xblk ba1 3 ([.int .i64 a1v])::fs) w'):=by
  refine calls_abs ?_; intro R hR;unfold verdict_fits_1.f at hp0;refine c0 Tryz.func44 (cd44 1) 6 ?_;refine sR 2 [.inRegion (opsOf (cd44 2)) [0,1],.code (cd44 3)] ?_;refine rB 38 (.tmp 0) (enc_api_Final a0) hS0 ?_;intro b1 w2 hS3;refine sR 5 [iR (cd44 6) 1 4,.code (cd44 7)] ?_;refine rL1 3 (.tmp 4) 0 (hS3.blk 0 rfl) ?_;refine rL1 3 (.tmp 1) 0 (hS3.blk 1 rfl) ?_;refine sI 1 [.inRegion (opsOf (cd44 6)) [4],.code (cd44 7)] 7 hp0 (fun hp7 => ?_) fun hp10 => ?_
  ·refine sR 2 [.code (cd44 7)] ?_;refine rR (.bool true) Tryz.func44 ?_;cases oI hp7;exact hR _ _ ⟨rfl,hS3.drop⟩
  refine sR 2 [.code (cd44 7)] ?_;refine rR (.bool false) Tryz.func44 ?_;cases oI hp10;exact hR _ _ ⟨rfl,hS3.drop⟩

noncomputable def cd73 (p : Nat) : Code := sub (bodyOf Tryz.f73) (pth p)
abbrev td127:=tC (cd73 7) []
abbrev td129:List Item:=.inLoop (cd73 52)::(tB 0 td127)
abbrev td130:=tC (cd73 52) td129
abbrev td132:=tB 1 (tC (cd73 423) td129)
def slices_IndexFunc___api_Final_api_Final.l0 (a0 : List api_Final) (a1c0v t11 : Int) : Option (Sum Unit Int) :=
  (if (decide (t11 < (a0.length : Int))) = true then (if 0 ≤ t11 ∧ t11 < (a0.length : Int) then (verdict_fits_1.f (gt a0 t11) a1c0v >>= (fun t31 => (if t31 = true then some (.inr (t11)) else (slices_IndexFunc___api_Final_api_Final.l0 a0 a1c0v (IntKind.i64.wrap (t11 + 1)))))) else none) else some (.inl ()))
 partial_fixpoint
def slices_IndexFunc___api_Final_api_Final.f (a0 : List api_Final) (a1c0v : Int) : Option Int :=
  (slices_IndexFunc___api_Final_api_Final.l0 a0 a1c0v 0 >>= (fun | .inl () => some ((-1)) | .inr e => some e))
theorem slices_IndexFunc___api_Final_api_Final.ok {a0 : List api_Final} {a1c0v : Int} {Aa0 : Option Addr} {ca0 ba1c0 : Nat} {q0 : Int} (hp0 : slices_IndexFunc___api_Final_api_Final.f a0 a1c0v = some q0) (hS0 : St w0 Z (xblk ba1c0 3 ([.int .i64 a1c0v])::fs) w) (ha0 : SlZ (flat enc_api_Final) 49 Z Aa0 ca0 a0) :
    Calls Tryz.prog 73 #[.slice Aa0 a0.length ca0,.func (.func 44) #[] #[.pointer (some ⟨ba1c0,0,none⟩)]] w (fun e w' => e = .returned (.int .i64 q0) ∧ St w0 Z (xblk ba1c0 3 ([.int .i64 a1c0v])::fs) w'):=by
  let u2 : Nat × Value:=(1,.func (.func 44) #[] #[.pointer (some ⟨ba1c0,0,none⟩)]);let u1:=xblk ba1c0 3 ([.int .i64 a1c0v]);refine calls_abs ?_; intro R hR;unfold slices_IndexFunc___api_Final_api_Final.f at hp0;refine c0 Tryz.func73 (cd73 1) 17 ?_;refine sR 13 td130 ?_;obtain ⟨v1,hv2,hp3⟩:=bind_some' hp0;have hq6 : ∀ x,Sum.inr x = v1 → x = q0:=by intro x hx; subst hx; simpa using hp3
  have J7 : ∀ (he9 : Sum.inl () = v1) l8 w4 (hS5 : St w0 Z (u1::fs) w4),Rn Tryz.prog 73 td127 19 [] l8 w4 R:=by
   intro he9 l8 w4 hS5;subst he9;(try dsimp only at hp3);refine sR 4 [.code (cd73 15)] ?_;refine rR (.int .i64 (-1)) Tryz.func73 ?_;cases oI hp3;exact hR _ _ ⟨rfl,hS5⟩
  have L20 : ∀ t11 e15,slices_IndexFunc___api_Final_api_Final.l0 a0 a1c0v t11 = some e15 → e15 = v1 → ∀ l14 w12 (hS13 : St w0 Z (u1::fs) w12),Rn Tryz.prog 73 td130 19 [(0,.slice Aa0 a0.length ca0),u2,(7,.int .i64 (a0.length : Int)),(8,.int .i64 t11)] l14 w12 R:=by
   refine slices_IndexFunc___api_Final_api_Final.l0.partial_correctness a0 a1c0v (fun t11 e15 => e15 = v1 → ∀ (l14 : List Value) (w12 : World) (hS13 : St w0 Z (u1::fs) w12),Rn Tryz.prog 73 td130 19 [(0,.slice Aa0 a0.length ca0),u2,(7,.int .i64 (a0.length : Int)),(8,.int .i64 t11)] l14 w12 R) ?_;intro rec19 ih18 t11 e15 hb17 he16 l14 w12 hS13;have hq21 : ∀ x,Sum.inr x = e15 → x = q0:=fun x hx => hq6 x (hx.trans he16);refine sI 3 (.inRegion (opsOf (cd73 104)) []::.code (cd73 105)::td129) 9 hb17 (fun hp24 => ?_) fun hp39 => ?_
   ·refine sR 16 (.inRegion (opsOf (cd73 3378)) [3,4,5]::.code (cd73 3379)::td132) ?_;obtain ⟨g25,hp26⟩:=ite_some hp24;obtain ⟨b27,p28,hA29,hc30⟩:=ha0.atF g25.1 g25.2;refine rX 51 49 (.tmp 12) (.tmp 13) hA29 g25 ?_;refine rL 38 (.tmp 14) (loads_agg (hc30.cells hS13) (by kernel_rfl) (lenK (len_api_Final _) (by kernel_rfl))) ?_;obtain ⟨t31,hr32,hp33⟩:=bind_some' hp26;refine rC (verdict_fits_1.ok hr32 hS13) ?_;rintro _ w34 ⟨rfl,hS35⟩;refine ⟨_,rfl,?_⟩;refine sR 1 (.code (cd73 3379)::td132) ?_;cases t31
    ·have hp36:=ite_f hp33 rfl;refine sR 7 td129 ?_;refine sR 1 td130 ?_;exact rF _ (ih18 _ _ hp36 he16 _ _ hS35)
    have hp37:=ite_t hp33 rfl;refine sR 6 (.code (cd73 13517)::td132) ?_;refine rI (cd73 13517) ?_;refine rR (.int .i64 t11) Tryz.func73 ?_;cases hq21 _ (oI hp37);exact hR _ _ ⟨rfl,hS35⟩
   refine sR 4 td127 ?_;exact rF _ (J7 ((oI hp39).trans he16) _ _ hS13)
  exact rF _ (L20 _ _ hv2 rfl _ _ hS0)

noncomputable def cd43 (p : Nat) : Code := sub (bodyOf Tryz.f43) (pth p)
def slices_ContainsFunc___api_Final_api_Final.f (a0 : List api_Final) (a1c0v : Int) : Option Bool :=
  (slices_IndexFunc___api_Final_api_Final.f a0 a1c0v >>= (fun t1 => (if (decide (t1 ≥ 0)) = true then some (true) else some (false))))
theorem slices_ContainsFunc___api_Final_api_Final.ok {a0 : List api_Final} {a1c0v : Int} {Aa0 : Option Addr} {ca0 ba1c0 : Nat} {q0 : Bool} (hp0 : slices_ContainsFunc___api_Final_api_Final.f a0 a1c0v = some q0) (hS0 : St w0 Z (xblk ba1c0 3 ([.int .i64 a1c0v])::fs) w) (ha0 : SlZ (flat enc_api_Final) 49 Z Aa0 ca0 a0) :
    Calls Tryz.prog 43 #[.slice Aa0 a0.length ca0,.func (.func 44) #[] #[.pointer (some ⟨ba1c0,0,none⟩)]] w (fun e w' => e = .returned (.bool q0) ∧ St w0 Z (xblk ba1c0 3 ([.int .i64 a1c0v])::fs) w'):=by
  refine calls_abs ?_; intro R hR;unfold slices_ContainsFunc___api_Final_api_Final.f at hp0;refine c0 Tryz.func43 (cd43 1) 7 ?_;refine sR 8 [.inRegion (opsOf (cd43 6)) [2,3,4],.code (cd43 7)] ?_;obtain ⟨t1,hr2,hp3⟩:=bind_some' hp0;refine rC (slices_IndexFunc___api_Final_api_Final.ok hr2 hS0 ha0) ?_;rintro _ w4 ⟨rfl,hS5⟩;refine ⟨_,rfl,?_⟩;refine sI 1 [.inRegion (opsOf (cd43 6)) [4],.code (cd43 7)] 8 hp3 (fun hp8 => ?_) fun hp10 => ?_
  ·refine sR 2 [.code (cd43 7)] ?_;refine rR (.bool true) Tryz.func43 ?_;cases oI hp8;exact hR _ _ ⟨rfl,hS5⟩
  refine sR 2 [.code (cd43 7)] ?_;refine rR (.bool false) Tryz.func43 ?_;cases oI hp10;exact hR _ _ ⟨rfl,hS5⟩

noncomputable def cd22 (p : Nat) : Code := sub (bodyOf Tryz.f22) (pth p)
abbrev td133:=tC (cd22 7) []
def verdict_fits.f (a0 : List api_Final) (a1 : Int) : Option Bool :=
  (state_Rises.f a0 >>= (fun t5 => (if t5 = true then (slices_ContainsFunc___api_Final_api_Final.f a0 a1 >>= (fun t14 => (if (!t14) = true then some (true) else some (false)))) else some (false))))
theorem verdict_fits.ok {a0 : List api_Final} {a1 : Int} {Aa0 : Option Addr} {ca0 : Nat} {q0 : Bool} (hp0 : verdict_fits.f a0 a1 = some q0) (hS0 : St w0 Z (fs) w) (ha0 : SlZ (flat enc_api_Final) 49 Z Aa0 ca0 a0) :
    Calls Tryz.prog 22 #[.slice Aa0 a0.length ca0,.int .i64 a1] w (fun e w' => e = .returned (.bool q0) ∧ St w0 Z (fs) w'):=by
  refine calls_abs ?_; intro R hR;unfold verdict_fits.f at hp0;refine c0 Tryz.func22 (cd22 1) 11 ?_;refine sR 2 [.inRegion (opsOf (cd22 2)) [0,1],.code (cd22 3)] ?_;refine rB 3 (.tmp 1) [.int .i64 a1] hS0 ?_;intro b1 w2 hS3;refine sR 5 (iR (cd22 6) 1 8::td133) ?_;obtain ⟨t5,hr6,hp7⟩:=bind_some' hp0;refine rC (state_Rises.ok hr6 hS3 ha0) ?_;rintro _ w8 ⟨rfl,hS9⟩;refine ⟨_,rfl,?_⟩;refine sR 1 (iR (cd22 6) 3 6::td133) ?_;cases t5
  ·have hp10:=ite_f hp7 rfl;refine sR 7 td133 ?_;refine rR (.bool false) Tryz.func22 ?_;cases oI hp10;exact hR _ _ ⟨rfl,hS9.drop⟩
  have hp13:=ite_t hp7 rfl;refine sR 2 (iR (cd22 6) 5 4::td133) ?_;obtain ⟨t14,hr15,hp16⟩:=bind_some' hp13;refine rC (slices_ContainsFunc___api_Final_api_Final.ok hr15 hS9 ha0) ?_;rintro _ w17 ⟨rfl,hS18⟩;refine ⟨_,rfl,?_⟩;refine sI 1 (.inRegion (opsOf (cd22 6)) [7,8]::td133) 11 hp16 (fun hp21 => ?_) fun hp24 => ?_
  ·refine sR 3 td133 ?_;refine rR (.bool true) Tryz.func22 ?_;cases oI hp21;exact hR _ _ ⟨rfl,hS18.drop⟩
  refine sR 3 td133 ?_;refine rR (.bool false) Tryz.func22 ?_;cases oI hp24;exact hR _ _ ⟨rfl,hS18.drop⟩

noncomputable def cd46 (p : Nat) : Code := sub (bodyOf Tryz.f46) (pth p)
abbrev td134:=tC (cd46 7) []
abbrev td136:List Item:=.inLoop (cd46 52)::(tB 0 td134)
abbrev td137:=tC (cd46 52) td136
def slices_Index___api_Ref_api_Ref.l0 (a0 : List api_Ref) (a1 : api_Ref) (t15 : Int) : Option (Sum Unit Int) :=
  (if (decide (t15 < (a0.length : Int))) = true then (if 0 ≤ t15 ∧ t15 < (a0.length : Int) then (if (decide (a1 = (gt a0 t15))) = true then some (.inr (t15)) else (slices_Index___api_Ref_api_Ref.l0 a0 a1 (IntKind.i64.wrap (t15 + 1)))) else none) else some (.inl ()))
 partial_fixpoint
def slices_Index___api_Ref_api_Ref.f (a0 : List api_Ref) (a1 : api_Ref) : Option Int :=
  (slices_Index___api_Ref_api_Ref.l0 a0 a1 0 >>= (fun | .inl () => some ((-1)) | .inr e => some e))
theorem slices_Index___api_Ref_api_Ref.ok {a0 : List api_Ref} {a1 : api_Ref} {Aa0 : Option Addr} {ca0 : Nat} {q0 : Int} (hp0 : slices_Index___api_Ref_api_Ref.f a0 a1 = some q0) (hS0 : St w0 Z (fs) w) (ha0 : SlZ (flat enc_api_Ref) 2 Z Aa0 ca0 a0) :
    Calls Tryz.prog 46 #[.slice Aa0 a0.length ca0,.agg (enc_api_Ref a1).toArray] w (fun e w' => e = .returned (.int .i64 q0) ∧ St w0 Z (fs) w'):=by
  refine calls_abs ?_; intro R hR;unfold slices_Index___api_Ref_api_Ref.f at hp0;refine c0 Tryz.func46 (cd46 1) 17 ?_;refine sR 2 [.inRegion (opsOf (cd46 2)) [0,1],.code (cd46 3)] ?_;refine rB 40 (.tmp 1) (enc_api_Ref a1) hS0 ?_;intro b1 w2 hS3;refine sR 11 td137 ?_;obtain ⟨v5,hv6,hp7⟩:=bind_some' hp0;have hq10 : ∀ x,Sum.inr x = v5 → x = q0:=by intro x hx; subst hx; simpa using hp7
  have J11 : ∀ (he13 : Sum.inl () = v5) l12 w8 (hS9 : St w0 Z (fs) w8),Rn Tryz.prog 46 td134 19 [] l12 w8 R:=by
   intro he13 l12 w8 hS9;subst he13;(try dsimp only at hp7);refine sR 4 [.code (cd46 15)] ?_;refine rR (.int .i64 (-1)) Tryz.func46 ?_;cases oI hp7;exact hR _ _ ⟨rfl,hS9⟩
  have L24 : ∀ t15 e19,slices_Index___api_Ref_api_Ref.l0 a0 a1 t15 = some e19 → e19 = v5 → ∀ l18 w16 (hS17 : St w0 Z (xblk b1 40 (enc_api_Ref a1)::fs) w16),Rn Tryz.prog 46 td137 19 [(0,.slice Aa0 a0.length ca0),(3,.pointer (some ⟨b1,0,none⟩)),(7,.int .i64 (a0.length : Int)),(8,.int .i64 t15)] l18 w16 R:=by
   refine slices_Index___api_Ref_api_Ref.l0.partial_correctness a0 a1 (fun t15 e19 => e19 = v5 → ∀ (l18 : List Value) (w16 : World) (hS17 : St w0 Z (xblk b1 40 (enc_api_Ref a1)::fs) w16),Rn Tryz.prog 46 td137 19 [(0,.slice Aa0 a0.length ca0),(3,.pointer (some ⟨b1,0,none⟩)),(7,.int .i64 (a0.length : Int)),(8,.int .i64 t15)] l18 w16 R) ?_;intro rec23 ih22 t15 e19 hb21 he20 l18 w16 hS17;have hq25 : ∀ x,Sum.inr x = e19 → x = q0:=fun x hx => hq10 x (hx.trans he20);refine sI 3 (.inRegion (opsOf (cd46 104)) []::.code (cd46 105)::td136) 9 hb21 (fun hp28 => ?_) fun hp45 => ?_
   ·refine sR 12 (.code (cd46 3378)::.code (cd46 3379)::.inBlock 1::.code (cd46 423)::td136) ?_;refine rQ hS17 (cd46 3378) 4 [0,1,2,3,4,5] ?_;refine qLa 40 (.tmp 3) (fun w hC => (hC.blk 0 rfl)) ?_;refine qR 2 [3,4,5] ?_;obtain ⟨g29,hp30⟩:=ite_some hp28;obtain ⟨b31,p32,hA33,hc34⟩:=ha0.atF g29.1 g29.2;refine qX 31 2 (.tmp 12) (.tmp 13) hA33 g29 ?_;refine qLa 40 (.tmp 14) (fun w hC => (hc34.cells hC)) ?_;refine qV (.binOp .eql 40 (.tmp 11) (.tmp 15) 40) (.bool (decide (a1 = (gt a0 t15)))) (fun w hC o ho _ => x_eql_api_Ref (by kernel_rfl) (by kernel_rfl) ho) ?_;refine q_split (decide (a1 = (gt a0 t15))) (fun h35 => ?_) (fun h36 => ?_)
    ·have hp37:=ite_t hp30 h35;refine Qs.nil ?_;intro w38 hS39;refine sR 6 (.code (cd46 13517)::.inBlock 1::.code (cd46 423)::td136) ?_;refine rI (cd46 13517) ?_;refine rR (.int .i64 t15) Tryz.func46 ?_;cases hq25 _ (oI hp37);exact hR _ _ ⟨rfl,hS39.drop⟩
    have hp42:=ite_f hp30 h36;refine Qs.nil ?_;intro w43 hS44;refine sR 7 td136 ?_;refine sR 1 td137 ?_;exact rF _ (ih22 _ _ hp42 he20 _ _ hS44)
   refine sR 4 td134 ?_;exact rF _ (J11 ((oI hp45).trans he20) _ _ hS17.drop)
  exact rF _ (L24 _ _ hv6 rfl _ _ hS3)

noncomputable def cd24 (p : Nat) : Code := sub (bodyOf Tryz.f24) (pth p)
def prog_Index.f (a0 : api_Prog) (a1 : api_Ref) : Option (Int × Bool) :=
  (prog_Names.f a0 >>= (fun t9 => (slices_Index___api_Ref_api_Ref.f t9 a1 >>= (fun t24 => (if (decide (t24 ≥ 0)) = true then some (((bmax t24 0),true)) else some (((bmax t24 0),false)))))))
theorem prog_Index.ok {a0 : api_Prog} {a1 : api_Ref} {y0 : Option Addr} {y1 : Nat} {y2 : Option Addr} {y3 : Nat} {y4 : Option Addr} {y5 : Nat} {y6 : Option Addr} {y7 : Nat} {y8 : Option Addr} {y9 : Nat} {q0 : Int} {q1 : Bool} (hp0 : prog_Index.f a0 a1 = some (q0,q1)) (hS0 : St w0 Z (fs) w) (y10 : SlZ (repL (flat enc_api_Op) 5) 1 Z y0 y1 a0.Threads) (y11 : SlZ (repL (flat encS) 1) 1 Z y2 y3 a0.Regs) (y12 : SlZ (flat encS) 1 Z y4 y5 a0.Locs) (y13 : SlZ (repL (flat (encI .i64)) 1) 1 Z y6 y7 a0.RegInit) (y14 : SlZ (flat (encI .i64)) 1 Z y8 y9 a0.LocInit) :
    Calls Tryz.prog 24 #[.agg (ce_api_Prog a0 y0 y1 y2 y3 y4 y5 y6 y7 y8 y9).toArray,.agg (enc_api_Ref a1).toArray] w (fun e w' => e = .returned (.tuple #[.int .i64 q0,.bool q1]) ∧ St w0 Z (fs) w'):=by
  refine calls_abs ?_; intro R hR;unfold prog_Index.f at hp0;refine c0 Tryz.func24 (cd24 1) 13 ?_;refine sR 2 [iR (cd24 2) 0 4,.code (cd24 3)] ?_;refine rB 28 (.tmp 0) (ce_api_Prog a0 y0 y1 y2 y3 y4 y5 y6 y7 y8 y9) hS0 ?_;intro b1 w2 hS3;let u1:=xblk b1 28 ((ce_api_Prog a0 y0 y1 y2 y3 y4 y5 y6 y7 y8 y9));refine rB 40 (.tmp 1) (enc_api_Ref a1) hS3 ?_;intro b5 w6 hS7;let u2:=xblk b5 40 (enc_api_Ref a1);refine sR 4 [.code (cd24 6),.code (cd24 7)] ?_;obtain ⟨t9,hr10,hp11⟩:=bind_some' hp0;obtain ⟨t24,hr25,hp26⟩:=bind_some' hp11;refine r_drawnS (id:=1) (dl:=(fun (st : Unit ⊕ (Option Addr × Nat)) => match st with | .inl _ => [false] | .inr x12 => [true])) (C:=(fun st w => match st with | .inl _ => St w0 Z (u2::u1::fs) w | .inr x12 => St w0 Z (xrow x12.1 x12.2 40 2 (t9.flatMap enc_api_Ref)::u2::u1::fs) w)) (v:=(fun st => [.agg (ce_api_Prog a0 y0 y1 y2 y3 y4 y5 y6 y7 y8 y9).toArray,(match st with | .inr x12 => .slice x12.1 t9.length x12.2 | _ => undef),.agg (enc_api_Ref a1).toArray,(match st with | .inr x12 => .int .i64 t24 | _ => undef),(match st with | .inr x12 => .int .i64 t24 | _ => undef)])) (.inl ()) 0 5 [1] [[],[],[],[0],[0]] [[0],[],[],[],[]] [] hS7.drew ?_ ?_ ?_
  ·intro i hi he st w hC hd hu; match i,hi,he with
   | 0,_,_ =>
    rcases st with _ | x12
    ·dsimp only at hC;exact dLa 28 (.tmp 2) (hC.blk 1 rfl) hC
    ·exact nC (hu 0 (by decide))
   | 1,_,he => exact nC he
   | 2,_,_ =>
    rcases st with _ | x12
    ·dsimp only at hC;exact dLa 40 (.tmp 3) (hC.blk 0 rfl) hC
    ·dsimp only at hC;exact dLa 40 (.tmp 3) (hC.blk 1 rfl) hC
   | 3,_,_ =>
    rcases st with _ | x12
    ·exact nB (hd 0 (by decide))
    ·dsimp only at hC;exact (by obtain ⟨Z27,hz28,hS29,hs30,hb31⟩:=hC.lendrow len_api_Ref (by omega); refine does_call (g:=46) (args:=#[.slice x12.1 t9.length x12.2,.agg (enc_api_Ref a1).toArray]) (by kernel_rfl) (slices_Index___api_Ref_api_Ref.ok hr25 hS29 hs30) ?_; rintro e w2 ⟨rfl,h2⟩; have hS32:=hb31 _ _ h2; have hS33:=hS32.pick2; have hS34:=hS33.pick2; have hS35:=hS34.pick2; exact ⟨_,rfl,rfl,hS35⟩)
   | 4,_,_ =>
    rcases st with _ | x12
    ·exact nB (hd 0 (by decide))
    ·exact dQ (.int .i64 t24) hC
   | i + 5,hi,_ => exact absurd hi (by omega)
  ·intro k hk st w hC hr hm; match k,hk with
   | 0,_ =>
    rcases st with _ | x12
    ·dsimp only at hC;refine does_call (g:=23) (args:=#[.agg (ce_api_Prog a0 y0 y1 y2 y3 y4 y5 y6 y7 y8 y9).toArray]) (by kernel_rfl) (prog_Names.ok hr10 hC y10 y11 y12 y13 y14) ?_;rintro e w2 ⟨m36,m37,rfl,h2⟩;refine ⟨_,rfl,?_⟩;have h2:=h2.pick2.pick2.pick2;exact ⟨.inr (m36,m37),rfl,(by kernel_rfl),.inr rfl,h2.pick2.pick2.pick2⟩
    ·exact nC hr
   | k + 1,hk => exact absurd hk (by simp)
  intro st44 w41 hS42 hr43; rcases st44 with _ | x12
  ·exact nB (hr43 0 (by decide))
  replace hS42 : St w0 Z (xrow x12.1 x12.2 40 2 (t9.flatMap enc_api_Ref)::u2::u1::fs) w41:=hS42;refine sI 6 [.inRegion (opsOf (cd24 14)) [4,5],.code (cd24 15)] 14 hp26 (fun hp47 => ?_) fun hp52 => ?_
  ·refine sR 3 [.code (cd24 15)] ?_;refine rR (.tuple #[.int .i64 (bmax t24 0),.bool true]) Tryz.func24 ?_;cases oI hp47;exact hR _ _ ⟨rfl,hS42.drop.drop.drop⟩
  refine sR 3 [.code (cd24 15)] ?_;refine rR (.tuple #[.int .i64 (bmax t24 0),.bool false]) Tryz.func24 ?_;cases oI hp52;exact hR _ _ ⟨rfl,hS42.drop.drop.drop⟩

noncomputable def cd5 (p : Nat) : Code := sub (bodyOf Tryz.f5) (pth p)
def verdict_Value.f (a0 : api_Prog) (a1 : api_Final) (a2 : api_Ref) : Option (Int × Int) :=
  (prog_Valid.f a0 >>= (fun t13 => (if (t13 != 0) = true then some ((0,t13)) else (prog_Names.f a0 >>= (fun t28 => (verdict_fits.f ([a1] : List api_Final) (t28.length : Int) >>= (fun t52 => (if t52 = true then (prog_Index.f a0 a2 >>= (fun (t92,t93) => (if (!t93) = true then some ((0,91)) else (if 0 ≤ t92 ∧ t92 < 48 then some (((vget a1.V t92),0)) else none)))) else some ((0,100))))))))))
theorem verdict_Value.ok {a0 : api_Prog} {a1 : api_Final} {a2 : api_Ref} {y0 : Option Addr} {y1 : Nat} {y2 : Option Addr} {y3 : Nat} {y4 : Option Addr} {y5 : Nat} {y6 : Option Addr} {y7 : Nat} {y8 : Option Addr} {y9 : Nat} {q0 q1 : Int} (hp0 : verdict_Value.f a0 a1 a2 = some (q0,q1)) (hS0 : St w0 Z (fs) w) (y10 : SlZ (repL (flat enc_api_Op) 5) 1 Z y0 y1 a0.Threads) (y11 : SlZ (repL (flat encS) 1) 1 Z y2 y3 a0.Regs) (y12 : SlZ (flat encS) 1 Z y4 y5 a0.Locs) (y13 : SlZ (repL (flat (encI .i64)) 1) 1 Z y6 y7 a0.RegInit) (y14 : SlZ (flat (encI .i64)) 1 Z y8 y9 a0.LocInit) :
    Calls Tryz.prog 5 #[.agg (ce_api_Prog a0 y0 y1 y2 y3 y4 y5 y6 y7 y8 y9).toArray,.agg (enc_api_Final a1).toArray,.agg (enc_api_Ref a2).toArray] w (fun e w' => e = .returned (.tuple #[.int .i64 q0,.int .i64 q1]) ∧ St w0 Z (fs) w'):=by
  refine calls_abs ?_; intro R hR;unfold verdict_Value.f at hp0;refine c0 Tryz.func5 (cd5 1) 32 ?_;refine sR 2 [iR (cd5 2) 0 5,.code (cd5 3)] ?_;refine rB 28 (.tmp 0) (ce_api_Prog a0 y0 y1 y2 y3 y4 y5 y6 y7 y8 y9) hS0 ?_;intro b1 w2 hS3;let u1:=xblk b1 28 ((ce_api_Prog a0 y0 y1 y2 y3 y4 y5 y6 y7 y8 y9));refine rB 38 (.tmp 1) (enc_api_Final a1) hS3 ?_;intro b5 w6 hS7;let u2:=xblk b5 38 (enc_api_Final a1);refine rB 40 (.tmp 2) (enc_api_Ref a2) hS7 ?_;intro b9 w10 hS11;let u3:=xblk b9 40 (enc_api_Ref a2);refine sR 6 [.inRegion (opsOf (cd5 12)) [0,1,2],.code (cd5 13),.code (cd5 7)] ?_;refine rLa 28 (.tmp 3) (hS11.blk 2 rfl) ?_;obtain ⟨t13,hr14,hp15⟩:=bind_some' hp0;refine rC (prog_Valid.ok hr14 hS11 y10 y11 y12 y13 y14) ?_;rintro _ w16 ⟨rfl,hS17⟩;refine ⟨_,rfl,?_⟩;refine sI 6 [.inRegion (opsOf (cd5 26)) [],.code (cd5 27),.code (cd5 7)] 14 hp15 (fun hp20 => ?_) fun hp25 => ?_
  ·refine sR 8 [.code (cd5 109),.code (cd5 7)] ?_;refine rR (.tuple #[.int .i64 0,.int .i64 t13]) Tryz.func5 ?_;cases oI hp20;exact hR _ _ ⟨rfl,hS17.drop.drop.drop⟩
  refine sR 5 [.code (cd5 28),.code (cd5 29),.code (cd5 15)] ?_;obtain ⟨t28,hr29,hp30⟩:=bind_some' hp25;obtain ⟨t52,hr53,hp54⟩:=bind_some' hp30;refine r_drawnS (id:=4) (dl:=(fun (st : Unit ⊕ Nat ⊕ (Option Addr × Nat) ⊕ (Nat × (Option Addr × Nat))) => match st with | .inl _ => [false,false] | .inr (.inl b26) => [true,false] | .inr (.inr (.inl x31)) => [false,true] | .inr (.inr (.inr (b26,x31))) => [true,true])) (C:=(fun st w => match st with | .inl _ => St w0 Z (u3::u2::u1::fs) w | .inr (.inl b26) => St w0 Z (xrow (some ⟨b26,0,none⟩) 1 38 49 (([a1] : List api_Final).flatMap enc_api_Final)::u3::u2::u1::fs) w | .inr (.inr (.inl x31)) => St w0 Z (xrow x31.1 x31.2 40 2 (t28.flatMap enc_api_Ref)::u3::u2::u1::fs) w | .inr (.inr (.inr (b26,x31))) => St w0 Z (xrow x31.1 x31.2 40 2 (t28.flatMap enc_api_Ref)::xrow (some ⟨b26,0,none⟩) 1 38 49 (([a1] : List api_Final).flatMap enc_api_Final)::u3::u2::u1::fs) w)) (v:=(fun st => [.agg (enc_api_Final a1).toArray,(match st with | .inr (.inl b26) => .slice (some ⟨b26,0,none⟩) ([a1] : List api_Final).length 1 | .inr (.inr (.inr (b26,x31))) => .slice (some ⟨b26,0,none⟩) ([a1] : List api_Final).length 1 | _ => undef),.agg (ce_api_Prog a0 y0 y1 y2 y3 y4 y5 y6 y7 y8 y9).toArray,(match st with | .inr (.inr (.inl x31)) => .slice x31.1 t28.length x31.2 | .inr (.inr (.inr (b26,x31))) => .slice x31.1 t28.length x31.2 | _ => undef),(match st with | .inr (.inr (.inl x31)) => .int .i64 (t28.length : Int) | .inr (.inr (.inr (b26,x31))) => .int .i64 (t28.length : Int) | _ => undef),(match st with | .inr (.inr (.inr (b26,x31))) => .bool t52 | _ => undef),(match st with | .inr (.inr (.inr (b26,x31))) => .bool (!t52) | _ => undef)])) (.inl ()) 0 7 [1,3] [[],[],[],[],[1],[0,1],[0,1]] [[0],[],[1],[],[],[],[]] [] hS17.drew ?_ ?_ ?_
  ·intro i hi he st w hC hd hu; match i,hi,he with
   | 0,_,_ =>
    rcases st with _ | b26 | x31 | ⟨b26,x31⟩
    ·dsimp only at hC;exact does_run (x_load (t:=38) (x:=(.tmp 4)) (p:=⟨b5,0,none⟩) (v:=.agg (enc_api_Final a1).toArray) (by kernel_rfl) (loads_agg (hC.blk 1 rfl) (by kernel_rfl) (lenK (len_api_Final _) (by kernel_rfl))) (by kernel_rfl)) rfl hC
    ·exact nC (hu 0 (by decide))
    ·dsimp only at hC;exact does_run (x_load (t:=38) (x:=(.tmp 4)) (p:=⟨b5,0,none⟩) (v:=.agg (enc_api_Final a1).toArray) (by kernel_rfl) (loads_agg (hC.blk 2 rfl) (by kernel_rfl) (lenK (len_api_Final _) (by kernel_rfl))) (by kernel_rfl)) rfl hC
    ·exact nC (hu 0 (by decide))
   | 1,_,he => exact nC he
   | 2,_,_ =>
    rcases st with _ | b26 | x31 | ⟨b26,x31⟩
    ·dsimp only at hC;exact dLa 28 (.tmp 3) (hC.blk 2 rfl) hC
    ·dsimp only at hC;exact dLa 28 (.tmp 3) (hC.blk 3 rfl) hC
    ·exact nC (hu 1 (by decide))
    ·exact nC (hu 1 (by decide))
   | 3,_,he => exact nC he
   | 4,_,_ =>
    rcases st with _ | b26 | x31 | ⟨b26,x31⟩
    ·exact nB (hd 1 (by decide))
    ·exact nB (hd 1 (by decide))
    ·exact dQ (.int .i64 (t28.length : Int)) hC
    ·exact dQ (.int .i64 (t28.length : Int)) hC
   | 5,_,_ =>
    rcases st with _ | b26 | x31 | ⟨b26,x31⟩
    ·exact nB (hd 0 (by decide))
    ·exact nB (hd 1 (by decide))
    ·exact nB (hd 0 (by decide))
    ·dsimp only at hC;exact (by have hS55:=hC.pick1; obtain ⟨Z56,hz57,hS58,hs59,hb60⟩:=hS55.lendrow len_api_Final (by omega); refine does_call (g:=22) (args:=#[.slice (some ⟨b26,0,none⟩) ([a1] : List api_Final).length 1,.int .i64 (t28.length : Int)]) (by kernel_rfl) (verdict_fits.ok hr53 hS58 hs59) ?_; rintro e w2 ⟨rfl,h2⟩; have hS61:=hb60 _ _ h2; have hS62:=hS61.pick4; have hS63:=hS62.pick4; have hS64:=hS63.pick4; have hS65:=hS64.pick3; have hS66:=hS65.pick4; exact ⟨_,rfl,rfl,hS66⟩)
   | 6,_,_ =>
    rcases st with _ | b26 | x31 | ⟨b26,x31⟩
    ·exact nB (hd 0 (by decide))
    ·exact nB (hd 1 (by decide))
    ·exact nB (hd 0 (by decide))
    ·exact dQ (.bool (!t52)) hC
   | i + 7,hi,_ => exact absurd hi (by omega)
  ·intro k hk st w hC hr hm; match k,hk with
   | 0,_ =>
    rcases st with _ | b26 | x31 | ⟨b26,x31⟩
    ·dsimp only at hC;refine does_lit (t:=51) (e:=38) (sz:=49) (n:=1) (parts:=#[(0,(.tmp 16))]) (vs:=[(0,.agg (enc_api_Final a1).toArray)]) (z:=zeroOf Tryz.prog 38) (cs':=([a1] : List api_Final).flatMap enc_api_Final) hC (by kernel_rfl) (by kernel_rfl) (by kernel_rfl) (by kernel_rfl) (by decide) (by decide) (by kernel_rfl) rfl (Parts.cons (c:=enc_api_Final a1) (by kernel_rfl) (len_api_Final _) Parts.nil) rfl ?_;intro b26 w2 h2;exact ⟨.inr (.inl b26),rfl,(by kernel_rfl),.inr rfl,h2.pick3.pick3.pick3.pick3⟩
    ·exact nC hr
    ·dsimp only at hC;refine does_lit (t:=51) (e:=38) (sz:=49) (n:=1) (parts:=#[(0,(.tmp 16))]) (vs:=[(0,.agg (enc_api_Final a1).toArray)]) (z:=zeroOf Tryz.prog 38) (cs':=([a1] : List api_Final).flatMap enc_api_Final) hC (by kernel_rfl) (by kernel_rfl) (by kernel_rfl) (by kernel_rfl) (by decide) (by decide) (by kernel_rfl) rfl (Parts.cons (c:=enc_api_Final a1) (by kernel_rfl) (len_api_Final _) Parts.nil) rfl ?_;intro b26 w2 h2;exact ⟨.inr (.inr (.inr (b26,x31))),rfl,(by kernel_rfl),.inr rfl,h2.pick4.pick4.pick4.pick3.pick4⟩
    ·exact nC hr
   | 1,_ =>
    rcases st with _ | b26 | x31 | ⟨b26,x31⟩
    ·dsimp only at hC;refine does_call (g:=23) (args:=#[.agg (ce_api_Prog a0 y0 y1 y2 y3 y4 y5 y6 y7 y8 y9).toArray]) (by kernel_rfl) (prog_Names.ok hr29 hC y10 y11 y12 y13 y14) ?_;rintro e w2 ⟨m67,m68,rfl,h2⟩;refine ⟨_,rfl,?_⟩;have h2:=h2.pick3.pick3.pick3.pick3;exact ⟨.inr (.inr (.inl (m67,m68))),rfl,(by kernel_rfl),.inr rfl,h2.pick3.pick3.pick3.pick3⟩
    ·dsimp only at hC;refine does_call (g:=23) (args:=#[.agg (ce_api_Prog a0 y0 y1 y2 y3 y4 y5 y6 y7 y8 y9).toArray]) (by kernel_rfl) (prog_Names.ok hr29 hC y10 y11 y12 y13 y14) ?_;rintro e w2 ⟨m73,m74,rfl,h2⟩;refine ⟨_,rfl,?_⟩;have h2:=h2.pick4.pick4.pick4.pick4.pick4;exact ⟨.inr (.inr (.inr (b26,(m73,m74)))),rfl,(by kernel_rfl),.inr rfl,h2.pick4.pick4.pick4.pick4.pick4⟩
    ·exact nC hr
    ·exact nC hr
   | k + 2,hk => exact absurd hk (by simp)
  intro st83 w80 hS81 hr82; rcases st83 with _ | b26 | x31 | ⟨b26,x31⟩
  ·exact nB (hr82 0 (by decide))
  ·exact nB (hr82 1 (by decide))
  ·exact nB (hr82 0 (by decide))
  replace hS81 : St w0 Z (xrow x31.1 x31.2 40 2 (t28.flatMap enc_api_Ref)::xrow (some ⟨b26,0,none⟩) 1 38 49 (([a1] : List api_Final).flatMap enc_api_Final)::u3::u2::u1::fs) w80:=hS81;cases t52
  ·have hp84:=ite_f hp54 rfl;refine sR 6 [.code (cd5 117),.code (cd5 15)] ?_;refine rR (.tuple #[.int .i64 0,.int .i64 100]) Tryz.func5 ?_;cases oI hp84;exact hR _ _ ⟨rfl,hS81.drop.drop.drop.drop.drop⟩
  have hp91:=ite_t hp54 rfl;refine sR 4 [iR (cd5 30) 0 8,.code (cd5 31)] ?_;refine rLa 28 (.tmp 3) (hS81.blk 4 rfl) ?_;refine rLa 40 (.tmp 5) (hS81.blk 2 rfl) ?_;obtain ⟨⟨t92,t93⟩,hr94,hp95⟩:=bind_some' hp91;(try dsimp only at hp95);refine rC (prog_Index.ok hr94 hS81 y10 y11 y12 y13 y14) ?_;rintro _ w96 ⟨rfl,hS97⟩;refine ⟨_,rfl,?_⟩;refine sI 11 [.inRegion (opsOf (cd5 124)) [],.code (cd5 125),.code (cd5 63)] 30 hp95 (fun hp100 => ?_) fun hp107 => ?_
  ·refine sR 7 [.code (cd5 501),.code (cd5 63)] ?_;refine rR (.tuple #[.int .i64 0,.int .i64 91]) Tryz.func5 ?_;cases oI hp100;exact hR _ _ ⟨rfl,hS97.drop.drop.drop.drop.drop⟩
  refine sR 7 [iR (cd5 126) 2 4,.code (cd5 127)] ?_;obtain ⟨g108,hp109⟩:=ite_some hp107;refine r_indexArr (c:=(cd5 126)) (i:=2) (d:=(some 33)) (ty:=0) (t:=36) (e:=2) (sz:=1) (kk:=.i64) (x:=(.tmp 32)) (y:=(.tmp 31)) (b:=b5) (o':=1) (n:=48) (j:=t92) (by kernel_rfl) (by kernel_rfl) (by kernel_rfl) (by kernel_rfl) (by kernel_rfl) (by kernel_rfl) g108.1 g108.2 ?_;refine rL1 2 (.tmp 33) 0 (cells_vget (sub_api_Final_V (hS97.blk 3 rfl)) (len_encI .i64) g108.1 g108.2) ?_;refine sR 3 [.code (cd5 127)] ?_;refine rR (.tuple #[.int .i64 (vget a1.V t92),.int .i64 0]) Tryz.func5 ?_;cases oI hp109;exact hR _ _ ⟨rfl,hS97.drop.drop.drop.drop.drop⟩

noncomputable def cd48 (p : Nat) : Code := sub (bodyOf Tryz.f48) (pth p)
abbrev td138:=tC (cd48 7) []
abbrev td140:List Item:=.inLoop (cd48 52)::(tB 0 td138)
abbrev td141:=tC (cd48 52) td140
def weirref09_rises.l0 (a0 : List ByteArray) (t11 : Int) : Option (Sum Unit Bool) :=
  (if (decide (t11 < (a0.length : Int))) = true then (if 0 ≤ (IntKind.i64.wrap (t11 - 1)) ∧ (IntKind.i64.wrap (t11 - 1)) < (a0.length : Int) then (if 0 ≤ t11 ∧ t11 < (a0.length : Int) then (if (!Op.bytesLess (gt a0 (IntKind.i64.wrap (t11 - 1))).toList (gt a0 t11).toList) = true then some (.inr (false)) else (weirref09_rises.l0 a0 (IntKind.i64.wrap (t11 + 1)))) else none) else none) else some (.inl ()))
 partial_fixpoint
def weirref09_rises.f (a0 : List ByteArray) : Option Bool :=
  (weirref09_rises.l0 a0 1 >>= (fun | .inl () => some (true) | .inr e => some e))
theorem weirref09_rises.ok {a0 : List ByteArray} {Aa0 : Option Addr} {ca0 : Nat} {q0 : Bool} (hp0 : weirref09_rises.f a0 = some q0) (hS0 : St w0 Z (fs) w) (ha0 : SlZ (flat encS) 1 Z Aa0 ca0 a0) :
    Calls Tryz.prog 48 #[.slice Aa0 a0.length ca0] w (fun e w' => e = .returned (.bool q0) ∧ St w0 Z (fs) w'):=by
  refine calls_abs ?_; intro R hR;unfold weirref09_rises.f at hp0;refine c0 Tryz.func48 (cd48 1) 19 ?_;refine sR 11 td141 ?_;obtain ⟨v1,hv2,hp3⟩:=bind_some' hp0;have hq6 : ∀ x,Sum.inr x = v1 → x = q0:=by intro x hx; subst hx; simpa using hp3
  have J7 : ∀ (he9 : Sum.inl () = v1) l8 w4 (hS5 : St w0 Z (fs) w4),Rn Tryz.prog 48 td138 20 [] l8 w4 R:=by
   intro he9 l8 w4 hS5;subst he9;(try dsimp only at hp3);refine sR 4 [.code (cd48 15)] ?_;refine rR (.bool true) Tryz.func48 ?_;cases oI hp3;exact hR _ _ ⟨rfl,hS5⟩
  have L20 : ∀ t11 e15,weirref09_rises.l0 a0 t11 = some e15 → e15 = v1 → ∀ l14 w12 (hS13 : St w0 Z (fs) w12),Rn Tryz.prog 48 td141 20 [(0,.slice Aa0 a0.length ca0),(3,.int .i64 t11)] l14 w12 R:=by
   refine weirref09_rises.l0.partial_correctness a0 (fun t11 e15 => e15 = v1 → ∀ (l14 : List Value) (w12 : World) (hS13 : St w0 Z (fs) w12),Rn Tryz.prog 48 td141 20 [(0,.slice Aa0 a0.length ca0),(3,.int .i64 t11)] l14 w12 R) ?_;intro rec19 ih18 t11 e15 hb17 he16 l14 w12 hS13;have hq21 : ∀ x,Sum.inr x = e15 → x = q0:=fun x hx => hq6 x (hx.trans he16);refine sI 7 (.inRegion (opsOf (cd48 208)) []::.code (cd48 209)::.code (cd48 105)::td140) 7 hb17 (fun hp24 => ?_) fun hp46 => ?_
   ·refine sR 6 (.code (cd48 840)::.code (cd48 841)::.inBlock 1::.code (cd48 211)::td140) ?_;refine rQ hS13 (cd48 840) 4 [0,1,2,3,4,5,6,7,8,9] ?_;refine qR 3 (rg 3 7) ?_;obtain ⟨g25,hp26⟩:=ite_some hp24;obtain ⟨b27,p28,hA29,hc30⟩:=ha0.atF g25.1 g25.2;refine qX 24 1 (.tmp 10) (.tmp 12) hA29 g25 ?_;refine qL1 9 (.tmp 13) 0 (fun w hC => (hc30.cells hC)) ?_;refine qR 2 [7,8,9] ?_;obtain ⟨g31,hp32⟩:=ite_some hp26;obtain ⟨b33,p34,hA35,hc36⟩:=ha0.atF g31.1 g31.2;refine qX 24 1 (.tmp 15) (.tmp 16) hA35 g31 ?_;refine qL1 9 (.tmp 17) 0 (fun w hC => (hc36.cells hC)) ?_;refine qI 1 [] 19 hp32 (fun hp39 => ?_) fun hp43 => ?_
    ·refine Qs.nil ?_;intro w40 hS41;refine sR 5 (.code (cd48 3365)::.inBlock 1::.code (cd48 211)::td140) ?_;refine rR (.bool false) Tryz.func48 ?_;cases hq21 _ (oI hp39);exact hR _ _ ⟨rfl,hS41⟩
    refine Qs.nil ?_;intro w44 hS45;refine sR 8 td140 ?_;refine sR 1 td141 ?_;exact rF _ (ih18 _ _ hp43 he16 _ _ hS45)
   refine sR 3 td138 ?_;exact rF _ (J7 ((oI hp46).trans he16) _ _ hS13)
  exact rF _ (L20 _ _ hv2 rfl _ _ hS0)

noncomputable def cd74 (p : Nat) : Code := sub (bodyOf Tryz.f74) (pth p)
abbrev td142:=tC (cd74 15) []
abbrev td144:List Item:=.inLoop (cd74 116)::(tB 0 td142)
abbrev td145:=tC (cd74 116) td144
abbrev td147:=tB 1 (tC (cd74 467) td144)
def weirref09_Register.l0 (a0 : ByteArray) (t17 : Int) : Option (Sum Unit Bool) :=
  (if (decide (t17 < 16)) = true then (if 0 ≤ t17 ∧ t17 < 16 then (if (seq (vget (vset (vset (vset (vset (vset (vset (vset (vset (vset (vset (vset (vset (vset (vset (vset (vset (Vector.replicate 16 (⟨#[]⟩ : ByteArray)) 0 (⟨#[69,65,88]⟩ : ByteArray)) 1 (⟨#[69,66,88]⟩ : ByteArray)) 2 (⟨#[69,67,88]⟩ : ByteArray)) 3 (⟨#[69,68,88]⟩ : ByteArray)) 4 (⟨#[69,83,73]⟩ : ByteArray)) 5 (⟨#[69,68,73]⟩ : ByteArray)) 6 (⟨#[69,66,80]⟩ : ByteArray)) 7 (⟨#[69,83,80]⟩ : ByteArray)) 8 (⟨#[82,56]⟩ : ByteArray)) 9 (⟨#[82,57]⟩ : ByteArray)) 10 (⟨#[82,49,48]⟩ : ByteArray)) 11 (⟨#[82,49,49]⟩ : ByteArray)) 12 (⟨#[82,49,50]⟩ : ByteArray)) 13 (⟨#[82,49,51]⟩ : ByteArray)) 14 (⟨#[82,49,52]⟩ : ByteArray)) 15 (⟨#[82,49,53]⟩ : ByteArray)) t17) a0) = true then some (.inr (true)) else (weirref09_Register.l0 a0 (IntKind.i64.wrap (t17 + 1)))) else none) else some (.inl ()))
 partial_fixpoint
def weirref09_Register.f (a0 : ByteArray) : Option Bool :=
  (weirref09_Register.l0 a0 0 >>= (fun | .inl () => some (false) | .inr e => some e))
theorem weirref09_Register.ok {a0 : ByteArray} {q0 : Bool} (hp0 : weirref09_Register.f a0 = some q0) (hS0 : St w0 Z (fs) w) :
    Calls Tryz.prog 74 #[.string a0] w (fun e w' => e = .returned (.bool q0) ∧ St w0 Z (fs) w'):=by
  refine calls_abs ?_; intro R hR;unfold weirref09_Register.f at hp0;refine c0 Tryz.func74 (cd74 1) 14 ?_;refine sR 7 [.inRegion (opsOf (cd74 6)) [1,2],.code (cd74 7)] ?_;refine rA 164 (.agg ((encV encS) (Vector.replicate 16 (⟨#[]⟩ : ByteArray))).toArray) ((encV encS) (Vector.replicate 16 (⟨#[]⟩ : ByteArray))) hS0 ?_;intro b1 w2 hS3;let u1:=xblk b1 164 ((encV encS) (vset (vset (vset (vset (vset (vset (vset (vset (vset (vset (vset (vset (vset (vset (vset (vset (Vector.replicate 16 (⟨#[]⟩ : ByteArray)) 0 (⟨#[69,65,88]⟩ : ByteArray)) 1 (⟨#[69,66,88]⟩ : ByteArray)) 2 (⟨#[69,67,88]⟩ : ByteArray)) 3 (⟨#[69,68,88]⟩ : ByteArray)) 4 (⟨#[69,83,73]⟩ : ByteArray)) 5 (⟨#[69,68,73]⟩ : ByteArray)) 6 (⟨#[69,66,80]⟩ : ByteArray)) 7 (⟨#[69,83,80]⟩ : ByteArray)) 8 (⟨#[82,56]⟩ : ByteArray)) 9 (⟨#[82,57]⟩ : ByteArray)) 10 (⟨#[82,49,48]⟩ : ByteArray)) 11 (⟨#[82,49,49]⟩ : ByteArray)) 12 (⟨#[82,49,50]⟩ : ByteArray)) 13 (⟨#[82,49,51]⟩ : ByteArray)) 14 (⟨#[82,49,52]⟩ : ByteArray)) 15 (⟨#[82,49,53]⟩ : ByteArray)));refine r_store (c:=(cd74 6)) (i:=2) (d:=none) (ty:=0) (t:=164) (x:=(.tmp 3)) (y:=(.tmp 5)) (b:=b1) (o:=0) (e:=164) (cs:=(encV encS) (Vector.replicate 16 (⟨#[]⟩ : ByteArray))) (v:=.agg ((encV encS) (vset (vset (vset (vset (vset (vset (vset (vset (vset (vset (vset (vset (vset (vset (vset (vset (Vector.replicate 16 (⟨#[]⟩ : ByteArray)) 0 (⟨#[69,65,88]⟩ : ByteArray)) 1 (⟨#[69,66,88]⟩ : ByteArray)) 2 (⟨#[69,67,88]⟩ : ByteArray)) 3 (⟨#[69,68,88]⟩ : ByteArray)) 4 (⟨#[69,83,73]⟩ : ByteArray)) 5 (⟨#[69,68,73]⟩ : ByteArray)) 6 (⟨#[69,66,80]⟩ : ByteArray)) 7 (⟨#[69,83,80]⟩ : ByteArray)) 8 (⟨#[82,56]⟩ : ByteArray)) 9 (⟨#[82,57]⟩ : ByteArray)) 10 (⟨#[82,49,48]⟩ : ByteArray)) 11 (⟨#[82,49,49]⟩ : ByteArray)) 12 (⟨#[82,49,50]⟩ : ByteArray)) 13 (⟨#[82,49,51]⟩ : ByteArray)) 14 (⟨#[82,49,52]⟩ : ByteArray)) 15 (⟨#[82,49,53]⟩ : ByteArray))).toArray) (vs:=(encV encS) (vset (vset (vset (vset (vset (vset (vset (vset (vset (vset (vset (vset (vset (vset (vset (vset (Vector.replicate 16 (⟨#[]⟩ : ByteArray)) 0 (⟨#[69,65,88]⟩ : ByteArray)) 1 (⟨#[69,66,88]⟩ : ByteArray)) 2 (⟨#[69,67,88]⟩ : ByteArray)) 3 (⟨#[69,68,88]⟩ : ByteArray)) 4 (⟨#[69,83,73]⟩ : ByteArray)) 5 (⟨#[69,68,73]⟩ : ByteArray)) 6 (⟨#[69,66,80]⟩ : ByteArray)) 7 (⟨#[69,83,80]⟩ : ByteArray)) 8 (⟨#[82,56]⟩ : ByteArray)) 9 (⟨#[82,57]⟩ : ByteArray)) 10 (⟨#[82,49,48]⟩ : ByteArray)) 11 (⟨#[82,49,49]⟩ : ByteArray)) 12 (⟨#[82,49,50]⟩ : ByteArray)) 13 (⟨#[82,49,51]⟩ : ByteArray)) 14 (⟨#[82,49,52]⟩ : ByteArray)) 15 (⟨#[82,49,53]⟩ : ByteArray))) (cs':=(encV encS) (vset (vset (vset (vset (vset (vset (vset (vset (vset (vset (vset (vset (vset (vset (vset (vset (Vector.replicate 16 (⟨#[]⟩ : ByteArray)) 0 (⟨#[69,65,88]⟩ : ByteArray)) 1 (⟨#[69,66,88]⟩ : ByteArray)) 2 (⟨#[69,67,88]⟩ : ByteArray)) 3 (⟨#[69,68,88]⟩ : ByteArray)) 4 (⟨#[69,83,73]⟩ : ByteArray)) 5 (⟨#[69,68,73]⟩ : ByteArray)) 6 (⟨#[69,66,80]⟩ : ByteArray)) 7 (⟨#[69,83,80]⟩ : ByteArray)) 8 (⟨#[82,56]⟩ : ByteArray)) 9 (⟨#[82,57]⟩ : ByteArray)) 10 (⟨#[82,49,48]⟩ : ByteArray)) 11 (⟨#[82,49,49]⟩ : ByteArray)) 12 (⟨#[82,49,50]⟩ : ByteArray)) 13 (⟨#[82,49,51]⟩ : ByteArray)) 14 (⟨#[82,49,52]⟩ : ByteArray)) 15 (⟨#[82,49,53]⟩ : ByteArray))) hS3 (by kernel_rfl) (by kernel_rfl) (by kernel_rfl) (by kernel_rfl) (by kernel_rfl) (lenK ((len_encV len_encS) _) (by kernel_rfl)) ((one_encV one_encS) _) (by simp only [len_encV len_encS,List.length_cons,List.length_nil,List.length_append]; omega) (over_all (((len_encV len_encS) _).trans ((len_encV len_encS) _).symm)) ?_;intro w5 hS6;refine sR 8 td145 ?_;obtain ⟨v7,hv8,hp9⟩:=bind_some' hp0;have hq12 : ∀ x,Sum.inr x = v7 → x = q0:=by intro x hx; subst hx; simpa using hp9
  have J13 : ∀ (he15 : Sum.inl () = v7) l14 w10 (hS11 : St w0 Z (fs) w10),Rn Tryz.prog 74 td142 15 [] l14 w10 R:=by
   intro he15 l14 w10 hS11;subst he15;(try dsimp only at hp9);refine sR 4 [.code (cd74 31)] ?_;refine rR (.bool false) Tryz.func74 ?_;cases oI hp9;exact hR _ _ ⟨rfl,hS11⟩
  have L26 : ∀ t17 e21,weirref09_Register.l0 a0 t17 = some e21 → e21 = v7 → ∀ l20 w18 (hS19 : St w0 Z (u1::fs) w18),Rn Tryz.prog 74 td145 15 [(0,.string a0),(3,.pointer (some ⟨b1,0,none⟩)),(4,.int .i64 t17)] l20 w18 R:=by
   refine weirref09_Register.l0.partial_correctness a0 (fun t17 e21 => e21 = v7 → ∀ (l20 : List Value) (w18 : World) (hS19 : St w0 Z (u1::fs) w18),Rn Tryz.prog 74 td145 15 [(0,.string a0),(3,.pointer (some ⟨b1,0,none⟩)),(4,.int .i64 t17)] l20 w18 R) ?_;intro rec25 ih24 t17 e21 hb23 he22 l20 w18 hS19;have hq27 : ∀ x,Sum.inr x = e21 → x = q0:=fun x hx => hq12 x (hx.trans he22);refine sI 5 (.inRegion (opsOf (cd74 464)) []::.code (cd74 465)::.code (cd74 233)::td144) 7 hb23 (fun hp30 => ?_) fun hp39 => ?_
   ·refine sR 8 (iR (cd74 1864) 1 4::.code (cd74 1865)::td147) ?_;obtain ⟨g31,hp32⟩:=ite_some hp30;refine r_indexArr (c:=(cd74 1864)) (i:=1) (d:=(some 11)) (ty:=0) (t:=164) (e:=9) (sz:=1) (kk:=.i64) (x:=(.tmp 3)) (y:=(.tmp 10)) (b:=b1) (o':=0) (n:=16) (j:=t17) (by kernel_rfl) (by kernel_rfl) (by kernel_rfl) (by kernel_rfl) (by kernel_rfl) (by kernel_rfl) g31.1 g31.2 ?_;refine rL1 9 (.tmp 11) 0 (cells_vget (hS19.blk 0 rfl) len_encS g31.1 g31.2) ?_;refine sI 2 (.inRegion (opsOf (cd74 1864)) []::.code (cd74 1865)::td147) 14 hp32 (fun hp35 => ?_) fun hp38 => ?_
    ·refine sR 6 (.code (cd74 7461)::td147) ?_;refine rR (.bool true) Tryz.func74 ?_;cases hq27 _ (oI hp35);exact hR _ _ ⟨rfl,hS19.drop⟩
    refine sR 9 td144 ?_;refine sR 1 td145 ?_;exact rF _ (ih24 _ _ hp38 he22 _ _ hS19)
   refine sR 3 td142 ?_;exact rF _ (J13 ((oI hp39).trans he22) _ _ hS19.drop)
  exact rF _ (L26 _ _ hv8 rfl _ _ hS6)

noncomputable def cd47 (p : Nat) : Code := sub (bodyOf Tryz.f47) (pth p)
abbrev p47_32:=cd47 500936
abbrev td148:=tC (cd47 15) []
abbrev td149:=tC (cd47 29) td148
abbrev td150:=tC (cd47 31) []
abbrev td152:List Item:=.inLoop (cd47 244)::(tB 0 td150)
abbrev td153:=tC (cd47 244) td152
abbrev td154:=tC (cd47 63) []
abbrev td156:List Item:=.inLoop (cd47 500)::(tB 4 td154)
abbrev td157:=tC (cd47 500) td156
abbrev td159:=tB 5 (tC (cd47 2003) td156)
abbrev td160:=tC (cd47 8009) td159
abbrev td162:=tB 1 (tC (cd47 979) td152)
abbrev td163:=tC (cd47 3913) td162
abbrev td165:List Item:=.inLoop (cd47 31308)::(tB 2 td162)
abbrev td166:=tC (cd47 31308) td165
abbrev td168:=tC (cd47 125233) (tC (cd47 62617) td165)
abbrev td170:=tB 3 (tC (cd47 125235) td165)
abbrev td171:=tC (cd47 500937) td170
def weirref09_registers.l1 (a0 : api_Prog) (t36 : Int) : Option (Sum Unit Int) :=
  (if (decide (t36 < (a0.Threads.length : Int))) = true then (if 0 ≤ t36 ∧ t36 < (a0.Regs.length : Int) then (if (decide (((gt a0.Regs t36).length : Int) > 8)) = true then some (.inr (98)) else (weirref09_registers.l1 a0 (IntKind.i64.wrap (t36 + 1)))) else none) else some (.inl ()))
 partial_fixpoint
def weirref09_registers.l2 (a0 : api_Prog) (t71 t154 : Int) : Option (Sum Unit (Sum Unit Int)) :=
  (if 0 ≤ t71 ∧ t71 < (a0.Regs.length : Int) then (if (decide (t154 < ((gt a0.Regs t71).length : Int))) = true then (if 0 ≤ t71 ∧ t71 < (a0.Regs.length : Int) then (if 0 ≤ t154 ∧ t154 < ((gt a0.Regs t71).length : Int) then (weirref09_Register.f (gt (gt a0.Regs t71) t154) >>= (fun t200 => (if (!t200) = true then some (.inr (.inr (92))) else (weirref09_registers.l2 a0 t71 (IntKind.i64.wrap (t154 + 1)))))) else none) else none) else some (.inl ())) else none)
 partial_fixpoint
def weirref09_registers.l0 (a0 : api_Prog) (t71 : Int) : Option (Sum Unit Int) :=
  (if (decide (t71 < (a0.Threads.length : Int))) = true then (if 0 ≤ t71 ∧ t71 < (a0.RegInit.length : Int) then (if 0 ≤ t71 ∧ t71 < (a0.Regs.length : Int) then (if (((gt a0.RegInit t71).length : Int) != ((gt a0.Regs t71).length : Int)) = true then some (.inr (92)) else (if 0 ≤ t71 ∧ t71 < (a0.Regs.length : Int) then (weirref09_rises.f (gt a0.Regs t71) >>= (fun t132 => (if (!t132) = true then some (.inr (92)) else (weirref09_registers.l2 a0 t71 0 >>= (fun | .inl () => (weirref09_registers.l0 a0 (IntKind.i64.wrap (t71 + 1))) | .inr e => some e))))) else none)) else none) else none) else some (.inl ()))
 partial_fixpoint
def weirref09_registers.f (a0 : api_Prog) : Option Int :=
  (if ((a0.Regs.length : Int) != (a0.Threads.length : Int)) = true then some (92) else (if ((a0.RegInit.length : Int) != (a0.Threads.length : Int)) = true then some (92) else (weirref09_registers.l0 a0 0 >>= (fun | .inl () => (weirref09_registers.l1 a0 0 >>= (fun | .inl () => some (0) | .inr e => some e)) | .inr e => some e))))
theorem weirref09_registers.ok {a0 : api_Prog} {y0 : Option Addr} {y1 : Nat} {y2 : Option Addr} {y3 : Nat} {y4 : Option Addr} {y5 : Nat} {y6 : Option Addr} {y7 : Nat} {y8 : Option Addr} {y9 : Nat} {q0 : Int} (hp0 : weirref09_registers.f a0 = some q0) (hS0 : St w0 Z (fs) w) (y10 : SlZ (repL (flat enc_api_Op) 5) 1 Z y0 y1 a0.Threads) (y11 : SlZ (repL (flat encS) 1) 1 Z y2 y3 a0.Regs) (y12 : SlZ (flat encS) 1 Z y4 y5 a0.Locs) (y13 : SlZ (repL (flat (encI .i64)) 1) 1 Z y6 y7 a0.RegInit) (y14 : SlZ (flat (encI .i64)) 1 Z y8 y9 a0.LocInit) :
    Calls Tryz.prog 47 #[.agg (ce_api_Prog a0 y0 y1 y2 y3 y4 y5 y6 y7 y8 y9).toArray] w (fun e w' => e = .returned (.int .i64 q0) ∧ St w0 Z (fs) w'):=by
  let u2 : Nat × Value:=(3,.int .i64 (a0.Threads.length : Int));refine calls_abs ?_; intro R hR;unfold weirref09_registers.f at hp0;refine c0 Tryz.func47 (cd47 1) 80 ?_;refine sR 2 [.inRegion (opsOf (cd47 2)) [0,1],.code (cd47 3)] ?_;refine rB 28 (.tmp 0) (ce_api_Prog a0 y0 y1 y2 y3 y4 y5 y6 y7 y8 y9) hS0 ?_;intro b1 w2 hS3;let u3 : Nat × Value:=(1,.pointer (some ⟨b1,0,none⟩));let u1:=xblk b1 28 ((ce_api_Prog a0 y0 y1 y2 y3 y4 y5 y6 y7 y8 y9));refine sR 5 [.inRegion (opsOf (cd47 6)) [1,2,3],.code (cd47 7)] ?_;refine rL1 22 (.tmp 7) 0 (hS3.blk 0 rfl) ?_;refine sR 7 (iR (cd47 28) 1 11::td149) ?_;refine rL1 23 (.tmp 10) 1 (hS3.blk 0 rfl) ?_;refine sI 3 (iR (cd47 28) 5 7::td149) 14 hp0 (fun hp7 => ?_) fun hp10 => ?_
  ·refine sR 13 (.code (cd47 117)::td148) ?_;refine rR (.int .i64 92) Tryz.func47 ?_;cases oI hp7;exact hR _ _ ⟨rfl,hS3.drop⟩
  refine sR 2 (iR (cd47 28) 7 5::td149) ?_;refine rL1 25 (.tmp 16) 3 (hS3.blk 0 rfl) ?_;refine sI 3 (.inRegion (opsOf (cd47 28)) [11]::td149) 20 hp10 (fun hp13 => ?_) fun hp16 => ?_
  ·refine sR 7 (.code (cd47 117)::td148) ?_;refine rR (.int .i64 92) Tryz.func47 ?_;cases oI hp13;exact hR _ _ ⟨rfl,hS3.drop⟩
  refine sR 11 td153 ?_;obtain ⟨v17,hv18,hp19⟩:=bind_some' hp16;have hq22 : ∀ x,Sum.inr x = v17 → x = q0:=by intro x hx; subst hx; simpa using hp19
  have J23 : ∀ (he25 : Sum.inl () = v17) l24 w20 (hS21 : St w0 Z (u1::fs) w20),Rn Tryz.prog 47 td150 81 [u3,u2] l24 w20 R:=by
   intro he25 l24 w20 hS21;subst he25;(try dsimp only at hp19);refine sR 7 td157 ?_;obtain ⟨v26,hv27,hp28⟩:=bind_some' hp19;have hq31 : ∀ x,Sum.inr x = v26 → x = q0:=by intro x hx; subst hx; simpa using hp28
   have J32 : ∀ (he34 : Sum.inl () = v26) l33 w29 (hS30 : St w0 Z (fs) w29),Rn Tryz.prog 47 td154 81 [] l33 w29 R:=by
    intro he34 l33 w29 hS30;subst he34;(try dsimp only at hp28);refine sR 4 [.code (cd47 127)] ?_;refine rR (.int .i64 0) Tryz.func47 ?_;cases oI hp28;exact hR _ _ ⟨rfl,hS30⟩
   have L45 : ∀ t36 e40,weirref09_registers.l1 a0 t36 = some e40 → e40 = v26 → ∀ l39 w37 (hS38 : St w0 Z (u1::fs) w37),Rn Tryz.prog 47 td157 81 [u3,u2,(6,.int .i64 t36)] l39 w37 R:=by
    refine weirref09_registers.l1.partial_correctness a0 (fun t36 e40 => e40 = v26 → ∀ (l39 : List Value) (w37 : World) (hS38 : St w0 Z (u1::fs) w37),Rn Tryz.prog 47 td157 81 [u3,u2,(6,.int .i64 t36)] l39 w37 R) ?_;intro rec44 ih43 t36 e40 hb42 he41 l39 w37 hS38;have hq46 : ∀ x,Sum.inr x = e40 → x = q0:=fun x hx => hq31 x (hx.trans he41);refine sI 6 (.inRegion (opsOf (cd47 2000)) []::.code (cd47 2001)::.code (cd47 1001)::td156) 71 hb42 (fun hp49 => ?_) fun hp69 => ?_
    ·refine sR 8 (iR (cd47 8008) 1 6::td160) ?_;refine rL1 23 (.tmp 74) 1 (hS38.blk 0 rfl) ?_;refine sR 1 (iR (cd47 8008) 3 4::td160) ?_;obtain ⟨g50,hp51⟩:=ite_some hp49;obtain ⟨b52,p53,cs56,hA54,hr57,hl58,hc55⟩:=y11.at_ g50.1 g50.2;obtain ⟨A59,c60,rfl,hs61⟩:=hr57;refine rX 23 1 (.tmp 75) (.tmp 76) hA54 g50 ?_;refine rL1 24 (.tmp 77) 0 (hc55.cells hS38) ?_;refine sI 2 (.inRegion (opsOf (cd47 8008)) []::td160) 80 hp51 (fun hp65 => ?_) fun hp68 => ?_
     ·refine sR 6 (.code (cd47 32037)::td159) ?_;refine rI (cd47 32037) ?_;refine rR (.int .i64 98) Tryz.func47 ?_;cases hq46 _ (oI hp65);exact hR _ _ ⟨rfl,hS38.drop⟩
     refine sR 9 td156 ?_;refine sR 1 td157 ?_;exact rF _ (ih43 _ _ hp68 he41 _ _ hS38)
    refine sR 3 td154 ?_;exact rF _ (J32 ((oI hp69).trans he41) _ _ hS38.drop)
   exact rF _ (L45 _ _ hv27 rfl _ _ hS21)
  have L80 : ∀ t71 e75,weirref09_registers.l0 a0 t71 = some e75 → e75 = v17 → ∀ l74 w72 (hS73 : St w0 Z (u1::fs) w72),Rn Tryz.prog 47 td153 81 [u3,u2,(4,.int .i64 t71)] l74 w72 R:=by
   refine weirref09_registers.l0.partial_correctness a0 (fun t71 e75 => e75 = v17 → ∀ (l74 : List Value) (w72 : World) (hS73 : St w0 Z (u1::fs) w72),Rn Tryz.prog 47 td153 81 [u3,u2,(4,.int .i64 t71)] l74 w72 R) ?_;intro rec79 ih78 t71 e75 hb77 he76 l74 w72 hS73;have hq81 : ∀ x,Sum.inr x = e75 → x = q0:=fun x hx => hq22 x (hx.trans he76);refine sI 6 (.inRegion (opsOf (cd47 976)) []::.code (cd47 977)::.code (cd47 489)::td152) 24 hb77 (fun hp84 => ?_) fun hp212 => ?_
   ·refine sR 7 (.code (cd47 7824)::.code (cd47 7825)::td163) ?_;refine rQ hS73 (cd47 7824) 7 [0,1,2,3,4,5,6,7,8,9,10,11,12,13,14,15,16,17,18,19,20,21] ?_;refine qR 1 (rg 1 21) ?_;refine qL1 25 (.tmp 27) 3 (fun w hC => (hC.blk 0 rfl)) ?_;refine qR 1 (rg 3 19) ?_;obtain ⟨g85,hp86⟩:=ite_some hp84;obtain ⟨b87,p88,cs91,hA89,hr92,hl93,hc90⟩:=y13.at_ g85.1 g85.2;obtain ⟨A94,c95,rfl,hs96⟩:=hr92;refine qX 25 1 (.tmp 28) (.tmp 29) hA89 g85 ?_;refine qL1 26 (.tmp 30) 0 (fun w hC => (hc90.cells hC)) ?_;refine qR 2 (rg 7 15) ?_;refine qL1 23 (.tmp 33) 1 (fun w hC => (hC.blk 0 rfl)) ?_;refine qR 1 (rg 9 13) ?_;obtain ⟨g98,hp99⟩:=ite_some hp86;obtain ⟨b100,p101,cs104,hA102,hr105,hl106,hc103⟩:=y11.at_ g98.1 g98.2;obtain ⟨A107,c108,rfl,hs109⟩:=hr105;refine qX 23 1 (.tmp 34) (.tmp 35) hA102 g98 ?_;refine qL1 24 (.tmp 36) 0 (fun w hC => (hc103.cells hC)) ?_;refine qI 2 (rg 13 9) 39 hp99 (fun hp113 => ?_) fun hp118 => ?_
    ·refine qR 9 [] ?_;refine Qs.nil ?_;intro w114 hS115;refine sR 5 (.code (cd47 31301)::td163) ?_;refine rI (cd47 31301) ?_;refine rR (.int .i64 92) Tryz.func47 ?_;cases hq81 _ (oI hp113);exact hR _ _ ⟨rfl,hS115.drop⟩
    refine qR 2 (rg 15 7) ?_;refine qL1 23 (.tmp 41) 1 (fun w hC => (hC.blk 0 rfl)) ?_;refine qR 1 (rg 17 5) ?_;obtain ⟨g119,hp120⟩:=ite_some hp118;obtain ⟨b121,p122,cs125,hA123,hr126,hl127,hc124⟩:=y11.at_ g119.1 g119.2;obtain ⟨A128,c129,rfl,hs130⟩:=hr126;refine qX 23 1 (.tmp 42) (.tmp 43) hA123 g119 ?_;refine qL1 24 (.tmp 44) 0 (fun w hC => (hc124.cells hC)) ?_;obtain ⟨t132,hr133,hp134⟩:=bind_some' hp120;refine q_call1 (c:=(cd47 7824)) (i:=19) (d:=(some 46)) (v:=.bool t132) (g:=48) (args:=#[.slice A128 (gt a0.Regs t71).length c129]) (by kernel_rfl) (by kernel_rfl) (by kernel_rfl) (by kernel_rfl) (fun w hC => by
     refine (weirref09_rises.ok hr133 hC hs130).mono ?_;rintro e w2 ⟨rfl,h2⟩;exact ⟨rfl,h2⟩) ?_
    refine qI 1 [21] 47 hp134 (fun hp137 => ?_) fun hp142 => ?_
    ·refine qR 1 [] ?_;refine Qs.nil ?_;intro w138 hS139;refine sR 5 (.code (cd47 31301)::td163) ?_;refine rI (cd47 31301) ?_;refine rR (.int .i64 92) Tryz.func47 ?_;cases hq81 _ (oI hp137);exact hR _ _ ⟨rfl,hS139.drop⟩
    refine qR 1 [] ?_;refine Qs.nil ?_;intro w143 hS144;refine sR 8 td166 ?_;obtain ⟨v145,hv146,hp147⟩:=bind_some' hp142;have hq150 : ∀ x,Sum.inr x = v145 → x = e75:=by intro x hx; subst hx; simpa using hp147
    have J151 : ∀ (he153 : Sum.inl () = v145) l152 w148 (hS149 : St w0 Z (u1::fs) w148),Rn Tryz.prog 47 td162 81 [u3,u2,(4,.int .i64 t71)] l152 w148 R:=by
     intro he153 l152 w148 hS149;subst he153;(try dsimp only at hp147);refine sR 6 td152 ?_;refine sR 1 td153 ?_;exact rF _ (ih78 _ _ hp147 he76 _ _ hS149)
    have L163 : ∀ t154 e158,weirref09_registers.l2 a0 t71 t154 = some e158 → e158 = v145 → ∀ l157 w155 (hS156 : St w0 Z (u1::fs) w155),Rn Tryz.prog 47 td166 81 [u3,u2,(4,.int .i64 t71),(5,.int .i64 t154)] l157 w155 R:=by
     refine weirref09_registers.l2.partial_correctness a0 t71 (fun t154 e158 => e158 = v145 → ∀ (l157 : List Value) (w155 : World) (hS156 : St w0 Z (u1::fs) w155),Rn Tryz.prog 47 td166 81 [u3,u2,(4,.int .i64 t71),(5,.int .i64 t154)] l157 w155 R) ?_;intro rec162 ih161 t154 e158 hb160 he159 l157 w155 hS156;have hq164 : ∀ x,Sum.inr x = e158 → x = e75:=fun x hx => hq150 x (hx.trans he159);refine sR 5 (iR (cd47 125232) 2 6::td168) ?_;refine rL1 23 (.tmp 50) 1 (hS156.blk 0 rfl) ?_;refine sR 1 (iR (cd47 125232) 4 4::td168) ?_;obtain ⟨g165,hp166⟩:=ite_some hb160;obtain ⟨b167,p168,cs171,hA169,hr172,hl173,hc170⟩:=y11.at_ g165.1 g165.2;obtain ⟨A174,c175,rfl,hs176⟩:=hr172;refine rX 23 1 (.tmp 51) (.tmp 52) hA169 g165 ?_;refine rL1 24 (.tmp 53) 0 (hc170.cells hS156) ?_;refine sI 2 (.inRegion (opsOf (cd47 125232)) []::td168) 56 hp166 (fun hp180 => ?_) fun hp211 => ?_
     ·refine sR 8 (iR p47_32 1 9::td171) ?_;refine rL1 23 (.tmp 59) 1 (hS156.blk 0 rfl) ?_;refine sR 1 (iR p47_32 3 7::td171) ?_;obtain ⟨g181,hp182⟩:=ite_some hp180;obtain ⟨b183,p184,cs187,hA185,hr188,hl189,hc186⟩:=y11.at_ g181.1 g181.2;obtain ⟨A190,c191,rfl,hs192⟩:=hr188;refine rX 23 1 (.tmp 60) (.tmp 61) hA185 g181 ?_;refine rL1 24 (.tmp 62) 0 (hc186.cells hS156) ?_;refine sR 1 (iR p47_32 6 4::td171) ?_;obtain ⟨g194,hp195⟩:=ite_some hp182;obtain ⟨b196,p197,hA198,hc199⟩:=hs192.atF g194.1 g194.2;refine rX 24 1 (.tmp 63) (.tmp 64) hA198 g194 ?_;refine rL1 9 (.tmp 65) 0 (hc199.cells hS156) ?_;obtain ⟨t200,hr201,hp202⟩:=bind_some' hp195;refine rC (weirref09_Register.ok hr201 hS156) ?_;rintro _ w203 ⟨rfl,hS204⟩;refine ⟨_,rfl,?_⟩;refine sI 1 (.inRegion (opsOf p47_32) []::td171) 68 hp202 (fun hp207 => ?_) fun hp210 => ?_
      ·refine sR 6 (.code (cd47 2003749)::td170) ?_;refine rI (cd47 2003749) ?_;refine rR (.int .i64 92) Tryz.func47 ?_;cases hq81 _ (hq164 _ (oI hp207));exact hR _ _ ⟨rfl,hS204.drop⟩
      refine sR 9 td165 ?_;refine sR 1 td166 ?_;exact rF _ (ih161 _ _ hp210 he159 _ _ hS204)
     refine sR 3 td162 ?_;exact rF _ (J151 ((oI hp211).trans he159) _ _ hS156)
    exact rF _ (L163 _ _ hv146 rfl _ _ hS144)
   refine sR 3 td150 ?_;exact rF _ (J23 ((oI hp212).trans he76) _ _ hS73)
  exact rF _ (L80 _ _ hv18 rfl _ _ hS3)

noncomputable def cd97 (p : Nat) : Code := sub (bodyOf Tryz.f97) (pth p)
abbrev p97_0:=cd97 6
abbrev td172:=tC (cd97 7) []
abbrev td173:List Item:=.inRegion (opsOf p97_0) [17,18]::td172
def weirref05_letter.f (a0 : Int) : Option Bool :=
  (if (decide (a0 ≥ 97)) = true then (if (decide (a0 ≤ 122)) = true then some (true) else (if (decide (a0 ≥ 65)) = true then (if (decide (a0 ≤ 90)) = true then some (true) else (if (a0 == 95) = true then some (true) else some (false))) else (if (a0 == 95) = true then some (true) else some (false)))) else (if (decide (a0 ≥ 65)) = true then (if (decide (a0 ≤ 90)) = true then some (true) else (if (a0 == 95) = true then some (true) else some (false))) else (if (a0 == 95) = true then some (true) else some (false))))
theorem weirref05_letter.ok {a0 : Int} {q0 : Bool} (hp0 : weirref05_letter.f a0 = some q0) (hS0 : St w0 Z (fs) w) :
    Calls Tryz.prog 97 #[.int .u8 a0] w (fun e w' => e = .returned (.bool q0) ∧ St w0 Z (fs) w'):=by
  refine calls_abs ?_; intro R hR;unfold weirref05_letter.f at hp0;refine c0 Tryz.func97 (cd97 1) 20 ?_;refine sI 8 (iR p97_0 2 17::td172) 4 hp0 (fun hp3 => ?_) fun hp30 => ?_
  ·refine sI 3 (iR p97_0 5 14::td172) 7 hp3 (fun hp6 => ?_) fun hp8 => ?_
   ·refine sR 15 td172 ?_;refine rR (.bool true) Tryz.func97 ?_;cases oI hp6;exact hR _ _ ⟨rfl,hS0⟩
   refine sI 4 (iR p97_0 9 10::td172) 11 hp8 (fun hp11 => ?_) fun hp23 => ?_
   ·refine sI 3 (iR p97_0 12 7::td172) 14 hp11 (fun hp14 => ?_) fun hp16 => ?_
    ·refine sR 8 td172 ?_;refine rR (.bool true) Tryz.func97 ?_;cases oI hp14;exact hR _ _ ⟨rfl,hS0⟩
    refine sI 5 td173 19 hp16 (fun hp19 => ?_) fun hp21 => ?_
    ·refine sR 3 td172 ?_;refine rR (.bool true) Tryz.func97 ?_;cases oI hp19;exact hR _ _ ⟨rfl,hS0⟩
    refine sR 3 td172 ?_;refine rR (.bool false) Tryz.func97 ?_;cases oI hp21;exact hR _ _ ⟨rfl,hS0⟩
   refine sI 8 td173 19 hp23 (fun hp26 => ?_) fun hp28 => ?_
   ·refine sR 3 td172 ?_;refine rR (.bool true) Tryz.func97 ?_;cases oI hp26;exact hR _ _ ⟨rfl,hS0⟩
   refine sR 3 td172 ?_;refine rR (.bool false) Tryz.func97 ?_;cases oI hp28;exact hR _ _ ⟨rfl,hS0⟩
  refine sI 7 (iR p97_0 9 10::td172) 11 hp30 (fun hp33 => ?_) fun hp45 => ?_
  ·refine sI 3 (iR p97_0 12 7::td172) 14 hp33 (fun hp36 => ?_) fun hp38 => ?_
   ·refine sR 8 td172 ?_;refine rR (.bool true) Tryz.func97 ?_;cases oI hp36;exact hR _ _ ⟨rfl,hS0⟩
   refine sI 5 td173 19 hp38 (fun hp41 => ?_) fun hp43 => ?_
   ·refine sR 3 td172 ?_;refine rR (.bool true) Tryz.func97 ?_;cases oI hp41;exact hR _ _ ⟨rfl,hS0⟩
   refine sR 3 td172 ?_;refine rR (.bool false) Tryz.func97 ?_;cases oI hp43;exact hR _ _ ⟨rfl,hS0⟩
  refine sI 8 td173 19 hp45 (fun hp48 => ?_) fun hp50 => ?_
  ·refine sR 3 td172 ?_;refine rR (.bool true) Tryz.func97 ?_;cases oI hp48;exact hR _ _ ⟨rfl,hS0⟩
  refine sR 3 td172 ?_;refine rR (.bool false) Tryz.func97 ?_;cases oI hp50;exact hR _ _ ⟨rfl,hS0⟩

noncomputable def cd98 (p : Nat) : Code := sub (bodyOf Tryz.f98) (pth p)
def weirref05_digit.f (a0 : Int) : Option Bool :=
  (if (decide (a0 ≥ 48)) = true then (if (decide (a0 ≤ 57)) = true then some (true) else some (false)) else some (false))
theorem weirref05_digit.ok {a0 : Int} {q0 : Bool} (hp0 : weirref05_digit.f a0 = some q0) (hS0 : St w0 Z (fs) w) :
    Calls Tryz.prog 98 #[.int .u8 a0] w (fun e w' => e = .returned (.bool q0) ∧ St w0 Z (fs) w'):=by
  refine calls_abs ?_; intro R hR;unfold weirref05_digit.f at hp0;refine c0 Tryz.func98 (cd98 1) 8 ?_;refine sI 8 [iR (cd98 6) 2 5,.code (cd98 7)] 4 hp0 (fun hp3 => ?_) fun hp10 => ?_
  ·refine sI 3 [.inRegion (opsOf (cd98 6)) [5,6],.code (cd98 7)] 7 hp3 (fun hp6 => ?_) fun hp8 => ?_
   ·refine sR 3 [.code (cd98 7)] ?_;refine rR (.bool true) Tryz.func98 ?_;cases oI hp6;exact hR _ _ ⟨rfl,hS0⟩
   refine sR 3 [.code (cd98 7)] ?_;refine rR (.bool false) Tryz.func98 ?_;cases oI hp8;exact hR _ _ ⟨rfl,hS0⟩
  refine sR 6 [.code (cd98 7)] ?_;refine rR (.bool false) Tryz.func98 ?_;cases oI hp10;exact hR _ _ ⟨rfl,hS0⟩

noncomputable def cd75 (p : Nat) : Code := sub (bodyOf Tryz.f75) (pth p)
abbrev p75_12:=cd75 1930
abbrev p75_14:=cd75 7724
abbrev td174:List Item:=[.code (cd75 13),.code (cd75 7)]
abbrev td175:=tC (cd75 31) []
abbrev td177:List Item:=.inLoop (cd75 120)::(tB 0 td175)
abbrev td178:=tC (cd75 120) td177
abbrev td179:=tB 1 td177
abbrev td180:=tC (cd75 1931) td179
abbrev td181:=tC (cd75 3863) td179
abbrev td182:=tC (cd75 7725) td181
abbrev td183:=tC p75_14 td182
def weirref05_name.l0 (a0 : ByteArray) (a1 t28 : Int) : Option Int :=
  (if (decide ((IntKind.i64.wrap (a1 + t28)) < (a0.size : Int))) = true then (if 0 ≤ (IntKind.i64.wrap (a1 + t28)) ∧ (IntKind.i64.wrap (a1 + t28)) < (a0.size : Int) then (weirref05_letter.f (byt a0 (IntKind.i64.wrap (a1 + t28))) >>= (fun t43 => (((if t43 = true then some (true) else (weirref05_digit.f (byt a0 (IntKind.i64.wrap (a1 + t28))) >>= (fun t114 => (if t114 = true then some (true) else (if ((byt a0 (IntKind.i64.wrap (a1 + t28))) == 46) = true then some (true) else some (false)))))) : Option Bool) >>= (fun t51 => (((if ((byt a0 (IntKind.i64.wrap (a1 + t28))) == 43) = true then (if (decide ((IntKind.i64.wrap ((IntKind.i64.wrap (a1 + t28)) + 1)) < (a0.size : Int))) = true then some (true) else some (false)) else (if ((byt a0 (IntKind.i64.wrap (a1 + t28))) == 45) = true then (if (decide ((IntKind.i64.wrap ((IntKind.i64.wrap (a1 + t28)) + 1)) < (a0.size : Int))) = true then some (true) else some (false)) else some (false))) : Option Bool) >>= (fun t60 => (((if t60 = true then (if 0 ≤ (IntKind.i64.wrap ((IntKind.i64.wrap (a1 + t28)) + 1)) ∧ (IntKind.i64.wrap ((IntKind.i64.wrap (a1 + t28)) + 1)) < (a0.size : Int) then (weirref05_letter.f (byt a0 (IntKind.i64.wrap ((IntKind.i64.wrap (a1 + t28)) + 1))) >>= (fun t83 => (if t83 = true then some (true) else (if 0 ≤ (IntKind.i64.wrap ((IntKind.i64.wrap (a1 + t28)) + 1)) ∧ (IntKind.i64.wrap ((IntKind.i64.wrap (a1 + t28)) + 1)) < (a0.size : Int) then (weirref05_digit.f (byt a0 (IntKind.i64.wrap ((IntKind.i64.wrap (a1 + t28)) + 1))) >>= (fun t91 => some (t91))) else none)))) else none) else some (t51)) : Option Bool) >>= (fun t69 => (if (!t69) = true then some (t28) else (weirref05_name.l0 a0 a1 (IntKind.i64.wrap (t28 + 1)))))))))))) else none) else some (t28))
 partial_fixpoint
def weirref05_name.f (a0 : ByteArray) (a1 : Int) : Option Int :=
  (if (decide (a1 ≥ (a0.size : Int))) = true then some (0) else (if 0 ≤ a1 ∧ a1 < (a0.size : Int) then (weirref05_letter.f (byt a0 a1) >>= (fun t8 => (if (!t8) = true then some (0) else (weirref05_name.l0 a0 a1 1 >>= (fun t21 => some (t21)))))) else none))
theorem weirref05_name.ok {a0 : ByteArray} {a1 q0 : Int} (hp0 : weirref05_name.f a0 a1 = some q0) (hS0 : St w0 Z (fs) w) :
    Calls Tryz.prog 75 #[.string a0,.int .i64 a1] w (fun e w' => e = .returned (.int .i64 q0) ∧ St w0 Z (fs) w'):=by
  refine calls_abs ?_; intro R hR;unfold weirref05_name.f at hp0;refine c0 Tryz.func75 (cd75 1) 74 ?_;refine sI 11 (iR (cd75 12) 4 7::td174) 11 hp0 (fun hp3 => ?_) fun hp5 => ?_
  ·refine sR 13 [.code (cd75 53),.code (cd75 7)] ?_;refine rR (.int .i64 0) Tryz.func75 ?_;cases oI hp3;exact hR _ _ ⟨rfl,hS0⟩
  refine sR 3 (iR (cd75 12) 7 4::td174) ?_;obtain ⟨g6,hp7⟩:=ite_some hp5;refine rV (.index 9 (.tmp 13) (.tmp 14)) (.int .u8 (byt a0 a1)) (fun o ho _ => x_indexStr (kk:=.i64) (by kernel_rfl) (by kernel_rfl) (by kernel_rfl) g6.1 g6.2 ho) ?_;obtain ⟨t8,hr9,hp10⟩:=bind_some' hp7;refine rC (weirref05_letter.ok hr9 hS0) ?_;rintro _ w11 ⟨rfl,hS12⟩;refine ⟨_,rfl,?_⟩;refine sI 1 (.inRegion (opsOf (cd75 12)) [10]::td174) 17 hp10 (fun hp15 => ?_) fun hp17 => ?_
  ·refine sR 7 [.code (cd75 53),.code (cd75 7)] ?_;refine rR (.int .i64 0) Tryz.func75 ?_;cases oI hp15;exact hR _ _ ⟨rfl,hS12⟩
  refine sR 11 td178 ?_;obtain ⟨v18,hv19,hp20⟩:=bind_some' hp17;have J24 : ∀ t21 (he26 : t21 = v18) l25 w22 (hS23 : St w0 Z (fs) w22),Rn Tryz.prog 75 td175 76 [(5,.int .i64 t21)] l25 w22 R:=by
   intro t21 he26 l25 w22 hS23;subst he26;(try dsimp only at hp20);refine sR 5 [.code (cd75 63)] ?_;refine rR (.int .i64 t21) Tryz.func75 ?_;cases oI hp20;exact hR _ _ ⟨rfl,hS23⟩
  have L37 : ∀ t28 e32,weirref05_name.l0 a0 a1 t28 = some e32 → e32 = v18 → ∀ l31 w29 (hS30 : St w0 Z (fs) w29),Rn Tryz.prog 75 td178 76 [(0,.string a0),(1,.int .i64 a1),(5,.int .i64 t28)] l31 w29 R:=by
   refine weirref05_name.l0.partial_correctness a0 a1 (fun t28 e32 => e32 = v18 → ∀ (l31 : List Value) (w29 : World) (hS30 : St w0 Z (fs) w29),Rn Tryz.prog 75 td178 76 [(0,.string a0),(1,.int .i64 a1),(5,.int .i64 t28)] l31 w29 R) ?_;intro rec36 ih35 t28 e32 hb34 he33 l31 w29 hS30;let u1 : Value:=.int .u8 (byt a0 (IntKind.i64.wrap ((IntKind.i64.wrap (a1 + t28)) + 1)));refine sI 9 (.inRegion (opsOf (cd75 480)) []::.code (cd75 481)::.code (cd75 241)::td177) 24 hb34 (fun hp40 => ?_) fun hp126 => ?_
   ·refine sR 10 (.inRegion (opsOf (cd75 964)) [4,5]::.code (cd75 965)::td179) ?_;obtain ⟨g41,hp42⟩:=ite_some hp40;refine rV (.index 9 (.tmp 25) (.tmp 28)) (.int .u8 (byt a0 (IntKind.i64.wrap (a1 + t28)))) (fun o ho _ => x_indexStr (kk:=.i64) (by kernel_rfl) (by kernel_rfl) (by kernel_rfl) g41.1 g41.2 ho) ?_;refine sR 5 (iR p75_12 1 10::td180) ?_;obtain ⟨t43,hr44,hp45⟩:=bind_some' hp42;refine rC (weirref05_letter.ok hr44 hS30) ?_;rintro _ w46 ⟨rfl,hS47⟩;refine ⟨_,rfl,?_⟩;refine sR 1 (iR p75_12 3 8::td180) ?_;obtain ⟨v48,hv49,hp50⟩:=bind_some' hp45;have J54 : ∀ t51 (he56 : t51 = v48) l55 w52 (hS53 : St w0 Z (fs) w52),Rn Tryz.prog 75 td183 76 [(0,.string a0),(1,.int .i64 a1),(5,.int .i64 t28),(6,.int .u8 (byt a0 (IntKind.i64.wrap (a1 + t28)))),(7,.bool t51)] l55 w52 R:=by
     intro t51 he56 l55 w52 hS53;subst he56;(try dsimp only at hp50);obtain ⟨v57,hv58,hp59⟩:=bind_some' hp50;have J63 : ∀ t60 (he65 : t60 = v57) l64 w61 (hS62 : St w0 Z (fs) w61),Rn Tryz.prog 75 td182 76 [(0,.string a0),(1,.int .i64 a1),(5,.int .i64 t28),(7,.bool t51),(54,.bool t60)] l64 w61 R:=by
      intro t60 he65 l64 w61 hS62;subst he65;(try dsimp only at hp59);obtain ⟨v66,hv67,hp68⟩:=bind_some' hp59;have J72 : ∀ t69 (he74 : t69 = v66) l73 w70 (hS71 : St w0 Z (fs) w70),Rn Tryz.prog 75 td181 76 [(0,.string a0),(1,.int .i64 a1),(5,.int .i64 t28),(7,.bool t69)] l73 w70 R:=by
       intro t69 he74 l73 w70 hS71;subst he74;(try dsimp only at hp68);refine sI 5 (.inRegion (opsOf (cd75 15452)) []::.code (cd75 15453)::.code (cd75 7727)::td179) 72 hp68 (fun hp77 => ?_) fun hp78 => ?_
       ·refine sR 3 td175 ?_;exact rF _ (J24 _ ((oI hp77).trans he33) _ _ hS71)
       refine sR 9 td177 ?_;refine sR 1 td178 ?_;exact rF _ (ih35 _ _ hp78 he33 _ _ hS71)
      cases t60
      ·have hp79:=ite_f hv67 rfl;refine sR 2 td181 ?_;exact rF _ (J72 _ (oI hp79) _ _ hS62)
      have hp80:=ite_t hv67 rfl;refine sR 7 (iR (cd75 15450) 5 12::td181) ?_;obtain ⟨g81,hp82⟩:=ite_some hp80;refine rV (.index 9 (.tmp 55) (.tmp 59)) u1 (fun o ho _ => x_indexStr (kk:=.i64) (by kernel_rfl) (by kernel_rfl) (by kernel_rfl) g81.1 g81.2 ho) ?_;obtain ⟨t83,hr84,hp85⟩:=bind_some' hp82;refine rC (weirref05_letter.ok hr84 hS62) ?_;rintro _ w86 ⟨rfl,hS87⟩;refine ⟨_,rfl,?_⟩;refine sR 1 (iR (cd75 15450) 8 9::td181) ?_;cases t83
      ·have hp88:=ite_f hp85 rfl;refine sR 5 (iR (cd75 15450) 13 4::td181) ?_;obtain ⟨g89,hp90⟩:=ite_some hp88;refine rV (.index 9 (.tmp 63) (.tmp 67)) u1 (fun o ho _ => x_indexStr (kk:=.i64) (by kernel_rfl) (by kernel_rfl) (by kernel_rfl) g89.1 g89.2 ho) ?_;obtain ⟨t91,hr92,hp93⟩:=bind_some' hp90;refine rC (weirref05_digit.ok hr92 hS87) ?_;rintro _ w94 ⟨rfl,hS95⟩;refine ⟨_,rfl,?_⟩;refine sR 3 td181 ?_;exact rF _ (J72 _ (oI hp93) _ _ hS95)
      have hp96:=ite_t hp85 rfl;refine sR 10 td181 ?_;exact rF _ (J72 _ (oI hp96) _ _ hS87)
     refine sI 3 (iR p75_14 2 13::td182) 41 hv58 (fun hp99 => ?_) fun hp104 => ?_
     ·refine sI 12 (.inRegion (opsOf p75_14) [14]::td182) 53 hp99 (fun hp102 => ?_) fun hp103 => ?_
      ·refine sR 2 td182 ?_;exact rF _ (J63 _ (oI hp102) _ _ hS53)
      refine sR 2 td182 ?_;exact rF _ (J63 _ (oI hp103) _ _ hS53)
     refine sI 3 (iR p75_14 5 10::td182) 44 hp104 (fun hp107 => ?_) fun hp112 => ?_
     ·refine sI 9 (.inRegion (opsOf p75_14) [14]::td182) 53 hp107 (fun hp110 => ?_) fun hp111 => ?_
      ·refine sR 2 td182 ?_;exact rF _ (J63 _ (oI hp110) _ _ hS53)
      refine sR 2 td182 ?_;exact rF _ (J63 _ (oI hp111) _ _ hS53)
     refine sR 11 td182 ?_;exact rF _ (J63 _ (oI hp112) _ _ hS53)
    cases t43
    ·have hp113:=ite_f hv49 rfl;refine sR 1 (iR p75_12 4 7::td180) ?_;obtain ⟨t114,hr115,hp116⟩:=bind_some' hp113;refine rC (weirref05_digit.ok hr115 hS47) ?_;rintro _ w117 ⟨rfl,hS118⟩;refine ⟨_,rfl,?_⟩;refine sR 2 (iR p75_12 7 4::td180) ?_;cases t114
     ·have hp119:=ite_f hp116 rfl;refine sI 2 (.inRegion (opsOf p75_12) [9,10]::td180) 38 hp119 (fun hp122 => ?_) fun hp123 => ?_
      ·refine sR 5 td183 ?_;exact rF _ (J54 _ (oI hp122) _ _ hS118)
      refine sR 5 td183 ?_;exact rF _ (J54 _ (oI hp123) _ _ hS118)
     have hp124:=ite_t hp116 rfl;refine sR 7 td183 ?_;exact rF _ (J54 _ (oI hp124) _ _ hS118)
    have hp125:=ite_t hv49 rfl;refine sR 11 td183 ?_;exact rF _ (J54 _ (oI hp125) _ _ hS47)
   refine sR 3 td175 ?_;exact rF _ (J24 _ ((oI hp126).trans he33) _ _ hS30)
  exact rF _ (L37 _ _ hv19 rfl _ _ hS12)

noncomputable def cd49 (p : Nat) : Code := sub (bodyOf Tryz.f49) (pth p)
abbrev td184:=tC (cd49 7) []
def weirref05_Name.f (a0 : ByteArray) : Option Bool :=
  (if (decide ((a0.size : Int) > 0)) = true then (if (decide ((a0.size : Int) ≤ 64)) = true then (weirref05_name.f a0 0 >>= (fun t7 => (if (t7 == (a0.size : Int)) = true then some (true) else some (false)))) else some (false)) else some (false))
theorem weirref05_Name.ok {a0 : ByteArray} {q0 : Bool} (hp0 : weirref05_Name.f a0 = some q0) (hS0 : St w0 Z (fs) w) :
    Calls Tryz.prog 49 #[.string a0] w (fun e w' => e = .returned (.bool q0) ∧ St w0 Z (fs) w'):=by
  refine calls_abs ?_; intro R hR;unfold weirref05_Name.f at hp0;refine c0 Tryz.func49 (cd49 1) 17 ?_;refine sI 9 (iR (cd49 6) 3 13::td184) 5 hp0 (fun hp3 => ?_) fun hp20 => ?_
  ·refine sI 4 (iR (cd49 6) 7 9::td184) 9 hp3 (fun hp6 => ?_) fun hp18 => ?_
   ·refine sR 3 (iR (cd49 6) 10 6::td184) ?_;obtain ⟨t7,hr8,hp9⟩:=bind_some' hp6;refine rC (weirref05_name.ok hr8 hS0) ?_;rintro _ w10 ⟨rfl,hS11⟩;refine ⟨_,rfl,?_⟩;refine sI 3 (.inRegion (opsOf (cd49 6)) [14,15]::td184) 16 hp9 (fun hp14 => ?_) fun hp16 => ?_
    ·refine sR 3 td184 ?_;refine rR (.bool true) Tryz.func49 ?_;cases oI hp14;exact hR _ _ ⟨rfl,hS11⟩
    refine sR 3 td184 ?_;refine rR (.bool false) Tryz.func49 ?_;cases oI hp16;exact hR _ _ ⟨rfl,hS11⟩
   refine sR 10 td184 ?_;refine rR (.bool false) Tryz.func49 ?_;cases oI hp18;exact hR _ _ ⟨rfl,hS0⟩
  refine sR 14 td184 ?_;refine rR (.bool false) Tryz.func49 ?_;cases oI hp20;exact hR _ _ ⟨rfl,hS0⟩

noncomputable def cd76 (p : Nat) : Code := sub (bodyOf Tryz.f76) (pth p)
abbrev td186:=tB 0 (tC (cd76 7) [])
abbrev td187:=tC (cd76 863) td186
abbrev td188:=tC (cd76 13823) td186
def weirref09_uses.f (a0 : Int) : Option (Bool × Bool × Bool × Bool) :=
  (if (a0 == 1) = true then some ((true,false,false,true)) else (if (a0 == 2) = true then some ((true,true,false,false)) else (((if (a0 == 3) = true then some (true) else (if (a0 == 7) = true then some (true) else (if (a0 == 9) = true then some (true) else some (false)))) : Option Bool) >>= (fun t14 => (if t14 = true then some ((true,false,true,false)) else (if (a0 == 4) = true then some ((false,false,true,true)) else (((if (a0 == 5) = true then some (true) else (if (a0 == 8) = true then some (true) else some (false))) : Option Bool) >>= (fun t29 => (if t29 = true then some ((false,true,true,false)) else some ((false,false,false,false)))))))))))
theorem weirref09_uses.ok {a0 : Int} {q0 q1 : Bool} {q2 q3 : Bool} (hp0 : weirref09_uses.f a0 = some (q0,q1,q2,q3)) (hS0 : St w0 Z (fs) w) :
    Calls Tryz.prog 76 #[.int .i64 a0] w (fun e w' => e = .returned (.tuple #[.bool q0,.bool q1,.bool q2,.bool q3]) ∧ St w0 Z (fs) w'):=by
  refine calls_abs ?_; intro R hR;unfold weirref09_uses.f at hp0;refine c0 Tryz.func76 (cd76 1) 19 ?_;refine sI 16 (.inRegion (opsOf (cd76 52)) [1]::.code (cd76 53)::td186) 8 hp0 (fun hp3 => ?_) fun hp5 => ?_
  ·refine sR 10 (.code (cd76 213)::td186) ?_;refine rR (.tuple #[.bool true,.bool false,.bool false,.bool true]) Tryz.func76 ?_;cases oI hp3;exact hR _ _ ⟨rfl,hS0⟩
  refine sI 6 (.inRegion (opsOf (cd76 214)) [1]::.code (cd76 215)::td186) 10 hp5 (fun hp8 => ?_) fun hp10 => ?_
  ·refine sR 10 (.code (cd76 861)::td186) ?_;refine rR (.tuple #[.bool true,.bool true,.bool false,.bool false]) Tryz.func76 ?_;cases oI hp8;exact hR _ _ ⟨rfl,hS0⟩
  obtain ⟨v11,hv12,hp13⟩:=bind_some' hp10;have J17 : ∀ t14 (he19 : t14 = v11) l18 w15 (hS16 : St w0 Z (fs) w15),Rn Tryz.prog 76 td187 20 [(6,.int .i64 a0),(11,.bool t14)] l18 w15 R:=by
   intro t14 he19 l18 w15 hS16;subst he19;(try dsimp only at hp13);cases t14
   ·have hp20:=ite_f hp13 rfl;refine sI 4 (.inRegion (opsOf (cd76 3454)) [1]::.code (cd76 3455)::td186) 16 hp20 (fun hp23 => ?_) fun hp25 => ?_
    ·refine sR 10 (.code (cd76 13821)::td186) ?_;refine rI (cd76 13821) ?_;refine rR (.tuple #[.bool false,.bool false,.bool true,.bool true]) Tryz.func76 ?_;cases oI hp23;exact hR _ _ ⟨rfl,hS16⟩
    obtain ⟨v26,hv27,hp28⟩:=bind_some' hp25;have J32 : ∀ t29 (he34 : t29 = v26) l33 w30 (hS31 : St w0 Z (fs) w30),Rn Tryz.prog 76 td188 20 [(17,.bool t29)] l33 w30 R:=by
     intro t29 he34 l33 w30 hS31;subst he34;(try dsimp only at hp28);cases t29
     ·have hp35:=ite_f hp28 rfl;refine sR 10 [.code (cd76 15)] ?_;refine rR (.tuple #[.bool false,.bool false,.bool false,.bool false]) Tryz.func76 ?_;cases oI hp35;exact hR _ _ ⟨rfl,hS31⟩
     have hp37:=ite_t hp28 rfl;refine sR 8 (.code (cd76 55293)::td186) ?_;refine rI (cd76 55293) ?_;refine rR (.tuple #[.bool false,.bool true,.bool true,.bool false]) Tryz.func76 ?_;cases oI hp37;exact hR _ _ ⟨rfl,hS31⟩
    refine sI 7 (.inRegion (opsOf (cd76 27644)) [1]::.code (cd76 27645)::td188) 18 hv27 (fun hp41 => ?_) fun hp42 => ?_
    ·refine sR 4 td188 ?_;exact rF _ (J32 _ (oI hp41) _ _ hS16)
    refine sI 5 (.inRegion (opsOf (cd76 55291)) [1]::td188) 19 hp42 (fun hp45 => ?_) fun hp46 => ?_
    ·refine sR 2 td188 ?_;exact rF _ (J32 _ (oI hp45) _ _ hS16)
    refine sR 2 td188 ?_;exact rF _ (J32 _ (oI hp46) _ _ hS16)
   have hp47:=ite_t hp13 rfl;refine sR 8 (.code (cd76 3453)::td186) ?_;refine rR (.tuple #[.bool true,.bool false,.bool true,.bool false]) Tryz.func76 ?_;cases oI hp47;exact hR _ _ ⟨rfl,hS16⟩
  refine sI 7 (.inRegion (opsOf (cd76 1724)) [1]::.code (cd76 1725)::td187) 12 hv12 (fun hp51 => ?_) fun hp52 => ?_
  ·refine sR 4 td187 ?_;exact rF _ (J17 _ (oI hp51) _ _ hS0)
  refine sI 6 (.inRegion (opsOf (cd76 6902)) [1]::.code (cd76 6903)::td187) 13 hp52 (fun hp55 => ?_) fun hp56 => ?_
  ·refine sR 4 td187 ?_;exact rF _ (J17 _ (oI hp55) _ _ hS0)
  refine sI 5 (.inRegion (opsOf (cd76 13807)) [1]::td187) 14 hp56 (fun hp59 => ?_) fun hp60 => ?_
  ·refine sR 2 td187 ?_;exact rF _ (J17 _ (oI hp59) _ _ hS0)
  refine sR 2 td187 ?_;exact rF _ (J17 _ (oI hp60) _ _ hS0)

noncomputable def cd77 (p : Nat) : Code := sub (bodyOf Tryz.f77) (pth p)
abbrev td189:=tC (cd77 7) []
abbrev td191:List Item:=.inLoop (cd77 52)::(tB 0 td189)
abbrev td192:=tC (cd77 52) td191
abbrev td194:=tB 1 (tC (cd77 211) td191)
def weirref09_number.l0 (a0 : List ByteArray) (a1 : ByteArray) (t11 : Int) : Option (Sum Unit Int) :=
  (if (decide (t11 < (a0.length : Int))) = true then (if 0 ≤ t11 ∧ t11 < (a0.length : Int) then (if (seq (gt a0 t11) a1) = true then some (.inr (t11)) else (weirref09_number.l0 a0 a1 (IntKind.i64.wrap (t11 + 1)))) else none) else some (.inl ()))
 partial_fixpoint
def weirref09_number.f (a0 : List ByteArray) (a1 : ByteArray) : Option Int :=
  (weirref09_number.l0 a0 a1 0 >>= (fun | .inl () => some ((-1)) | .inr e => some e))
theorem weirref09_number.ok {a0 : List ByteArray} {a1 : ByteArray} {Aa0 : Option Addr} {ca0 : Nat} {q0 : Int} (hp0 : weirref09_number.f a0 a1 = some q0) (hS0 : St w0 Z (fs) w) (ha0 : SlZ (flat encS) 1 Z Aa0 ca0 a0) :
    Calls Tryz.prog 77 #[.slice Aa0 a0.length ca0,.string a1] w (fun e w' => e = .returned (.int .i64 q0) ∧ St w0 Z (fs) w'):=by
  refine calls_abs ?_; intro R hR;unfold weirref09_number.f at hp0;refine c0 Tryz.func77 (cd77 1) 17 ?_;refine sR 11 td192 ?_;obtain ⟨v1,hv2,hp3⟩:=bind_some' hp0;have hq6 : ∀ x,Sum.inr x = v1 → x = q0:=by intro x hx; subst hx; simpa using hp3
  have J7 : ∀ (he9 : Sum.inl () = v1) l8 w4 (hS5 : St w0 Z (fs) w4),Rn Tryz.prog 77 td189 19 [] l8 w4 R:=by
   intro he9 l8 w4 hS5;subst he9;(try dsimp only at hp3);refine sR 4 [.code (cd77 15)] ?_;refine rR (.int .i64 (-1)) Tryz.func77 ?_;cases oI hp3;exact hR _ _ ⟨rfl,hS5⟩
  have L20 : ∀ t11 e15,weirref09_number.l0 a0 a1 t11 = some e15 → e15 = v1 → ∀ l14 w12 (hS13 : St w0 Z (fs) w12),Rn Tryz.prog 77 td192 19 [(0,.slice Aa0 a0.length ca0),(1,.string a1),(5,.int .i64 t11)] l14 w12 R:=by
   refine weirref09_number.l0.partial_correctness a0 a1 (fun t11 e15 => e15 = v1 → ∀ (l14 : List Value) (w12 : World) (hS13 : St w0 Z (fs) w12),Rn Tryz.prog 77 td192 19 [(0,.slice Aa0 a0.length ca0),(1,.string a1),(5,.int .i64 t11)] l14 w12 R) ?_;intro rec19 ih18 t11 e15 hb17 he16 l14 w12 hS13;have hq21 : ∀ x,Sum.inr x = e15 → x = q0:=fun x hx => hq6 x (hx.trans he16);refine sI 7 (.inRegion (opsOf (cd77 208)) []::.code (cd77 209)::.code (cd77 105)::td191) 9 hb17 (fun hp24 => ?_) fun hp36 => ?_
   ·refine sR 9 (iR (cd77 840) 2 4::.code (cd77 841)::td194) ?_;obtain ⟨g25,hp26⟩:=ite_some hp24;obtain ⟨b27,p28,hA29,hc30⟩:=ha0.atF g25.1 g25.2;refine rX 24 1 (.tmp 12) (.tmp 13) hA29 g25 ?_;refine rL1 9 (.tmp 14) 0 (hc30.cells hS13) ?_;refine sI 2 (.inRegion (opsOf (cd77 840)) []::.code (cd77 841)::td194) 17 hp26 (fun hp33 => ?_) fun hp35 => ?_
    ·refine sR 7 (.code (cd77 3365)::td194) ?_;refine rR (.int .i64 t11) Tryz.func77 ?_;cases hq21 _ (oI hp33);exact hR _ _ ⟨rfl,hS13⟩
    refine sR 9 td191 ?_;refine sR 1 td192 ?_;exact rF _ (ih18 _ _ hp35 he16 _ _ hS13)
   refine sR 3 td189 ?_;exact rF _ (J7 ((oI hp36).trans he16) _ _ hS13)
  exact rF _ (L20 _ _ hv2 rfl _ _ hS0)

noncomputable def cd50 (p : Nat) : Code := sub (bodyOf Tryz.f50) (pth p)
abbrev p50_11:=cd50 124
abbrev p50_14:=cd50 126
abbrev p50_22:=cd50 246
abbrev td195:=tC (cd50 15) []
abbrev td196:=tC (cd50 29) td195
abbrev td197:=tC (cd50 31) []
abbrev td198:=tC (cd50 63) []
abbrev td199:=tC (cd50 125) td198
abbrev td200:=tC (cd50 127) []
abbrev td201:=tC (cd50 501) td198
abbrev td202:=tC (cd50 491) td197
abbrev td203:=tC (cd50 247) td197
abbrev td204:=tC (cd50 989) td197
def weirref09_right.f (a0 : api_Op) (a1 : List ByteArray) (a2 : Int) : Option Bool :=
  (weirref09_uses.f a0.Kind >>= (fun (t5,t6,t7,t8) => (if (decide (a0.Kind < 1)) = true then some (false) else (if (decide (a0.Kind > 9)) = true then some (false) else (((if (a0.Kind == 8) = true then (weirref09_number.f a1 (⟨#[69,65,88]⟩ : ByteArray) >>= (fun t114 => (if (decide (t114 < 0)) = true then some (.inr (false)) else (if (a0.Reg != t114) = true then some (.inr (false)) else some (.inl ()))))) else (if t5 = true then (if (decide (a0.Reg < 0)) = true then some (.inr (false)) else (if (decide (a0.Reg ≥ (a1.length : Int))) = true then some (.inr (false)) else some (.inl ()))) else (if (a0.Reg != 0) = true then some (.inr (false)) else some (.inl ())))) : Option (Sum Unit Bool)) >>= (fun | .inl () => (((if t6 = true then (if (decide (a0.Src < 0)) = true then some (.inr (false)) else (if (decide (a0.Src ≥ (a1.length : Int))) = true then some (.inr (false)) else some (.inl ()))) else (if (a0.Src != 0) = true then some (.inr (false)) else some (.inl ()))) : Option (Sum Unit Bool)) >>= (fun | .inl () => (if t7 = true then (if (decide (a0.Loc < 0)) = true then some (false) else (if (decide (a0.Loc ≥ a2)) = true then some (false) else (if (!t8) = true then (if (a0.Imm != 0) = true then some (false) else some (true)) else some (true)))) else (if (a0.Loc != 0) = true then some (false) else (if (!t8) = true then (if (a0.Imm != 0) = true then some (false) else some (true)) else some (true)))) | .inr e => some e)) | .inr e => some e))))))
theorem weirref09_right.ok {a0 : api_Op} {a1 : List ByteArray} {a2 : Int} {Aa1 : Option Addr} {ca1 : Nat} {q0 : Bool} (hp0 : weirref09_right.f a0 a1 a2 = some q0) (hS0 : St w0 Z (fs) w) (ha1 : SlZ (flat encS) 1 Z Aa1 ca1 a1) :
    Calls Tryz.prog 50 #[.agg (enc_api_Op a0).toArray,.slice Aa1 a1.length ca1,.int .i64 a2] w (fun e w' => e = .returned (.bool q0) ∧ St w0 Z (fs) w'):=by
  refine calls_abs ?_; intro R hR;unfold weirref09_right.f at hp0;refine c0 Tryz.func50 (cd50 1) 113 ?_;refine sR 2 [.inRegion (opsOf (cd50 2)) [0,1],.code (cd50 3)] ?_;refine rB 103 (.tmp 0) (enc_api_Op a0) hS0 ?_;intro b1 w2 hS3;refine sR 5 [iR (cd50 6) 1 11,.code (cd50 7)] ?_;refine rL1 3 (.tmp 13) 0 (hS3.blk 0 rfl) ?_;obtain ⟨⟨t5,t6,t7,t8⟩,hr9,hp10⟩:=bind_some' hp0;(try dsimp only at hp10);refine rC (weirref09_uses.ok hr9 hS3) ?_;rintro _ w11 ⟨rfl,hS12⟩;refine ⟨_,rfl,?_⟩;refine sR 14 (iR (cd50 28) 1 7::td196) ?_;refine rL1 3 (.tmp 20) 0 (hS12.blk 0 rfl) ?_;refine sI 1 (iR (cd50 28) 3 5::td196) 22 hp10 (fun hp15 => ?_) fun hp18 => ?_
  ·refine sR 11 (.code (cd50 117)::td195) ?_;refine rR (.bool false) Tryz.func50 ?_;cases oI hp15;exact hR _ _ ⟨rfl,hS12.drop⟩
  refine sR 2 (.inRegion (opsOf (cd50 28)) [5,6,7]::td196) ?_;refine rL1 3 (.tmp 24) 0 (hS12.blk 0 rfl) ?_;refine sI 1 (.inRegion (opsOf (cd50 28)) [7]::td196) 26 hp18 (fun hp21 => ?_) fun hp24 => ?_
  ·refine sR 7 (.code (cd50 117)::td195) ?_;refine rR (.bool false) Tryz.func50 ?_;cases oI hp21;exact hR _ _ ⟨rfl,hS12.drop⟩
  refine sR 8 (.inRegion (opsOf (cd50 60)) [1,2]::.code (cd50 61)::td197) ?_;refine rL1 3 (.tmp 28) 0 (hS12.blk 0 rfl) ?_;obtain ⟨v25,hv26,hp27⟩:=bind_some' hp24;have hq30 : ∀ x,Sum.inr x = v25 → x = q0:=by intro x hx; subst hx; simpa using hp27
  have J31 : ∀ (he33 : Sum.inl () = v25) l32 w28 (hS29 : St w0 Z (xblk b1 103 (enc_api_Op a0)::fs) w28),Rn Tryz.prog 50 td197 116 [(1,.slice Aa1 a1.length ca1),(2,.int .i64 a2),(3,.pointer (some ⟨b1,0,none⟩)),(8,.bool t6),(9,.bool t7),(10,.bool t8)] l32 w28 R:=by
   intro he33 l32 w28 hS29;subst he33;(try dsimp only at hp27);refine sR 5 (iR p50_11 2 20::td199) ?_;obtain ⟨v34,hv35,hp36⟩:=bind_some' hp27;have hq39 : ∀ x,Sum.inr x = v34 → x = q0:=by intro x hx; subst hx; simpa using hp36
   have J40 : ∀ (he42 : Sum.inl () = v34) l41 w37 (hS38 : St w0 Z (xblk b1 103 (enc_api_Op a0)::fs) w37),Rn Tryz.prog 50 td198 116 [(2,.int .i64 a2),(3,.pointer (some ⟨b1,0,none⟩)),(9,.bool t7),(10,.bool t8)] l41 w37 R:=by
    intro he42 l41 w37 hS38;subst he42;(try dsimp only at hp36);refine sR 4 (iR p50_14 2 30::td200) ?_;cases t7
    ·have hp43:=ite_f hp36 rfl;refine sR 15 (iR p50_14 17 15::td200) ?_;refine rL1 3 (.tmp 101) 3 (hS38.blk 0 rfl) ?_;refine sI 1 (iR p50_14 19 13::td200) 103 hp43 (fun hp46 => ?_) fun hp49 => ?_
     ·refine sR 14 td200 ?_;refine rR (.bool false) Tryz.func50 ?_;cases oI hp46;exact hR _ _ ⟨rfl,hS38.drop⟩
     refine sI 5 (iR p50_14 24 8::td200) 108 hp49 (fun hp52 => ?_) fun hp61 => ?_
     ·refine sR 2 (iR p50_14 26 6::td200) ?_;refine rL1 2 (.tmp 110) 4 (hS38.blk 0 rfl) ?_;refine sI 1 (iR p50_14 28 4::td200) 112 hp52 (fun hp55 => ?_) fun hp58 => ?_
      ·refine sR 5 td200 ?_;refine rR (.bool false) Tryz.func50 ?_;cases oI hp55;exact hR _ _ ⟨rfl,hS38.drop⟩
      refine sR 5 td200 ?_;refine rR (.bool true) Tryz.func50 ?_;cases oI hp58;exact hR _ _ ⟨rfl,hS38.drop⟩
     refine sR 9 td200 ?_;refine rR (.bool true) Tryz.func50 ?_;cases oI hp61;exact hR _ _ ⟨rfl,hS38.drop⟩
    have hp64:=ite_t hp36 rfl;refine sR 1 (iR p50_14 3 29::td200) ?_;refine rL1 3 (.tmp 87) 3 (hS38.blk 0 rfl) ?_;refine sI 1 (iR p50_14 5 27::td200) 89 hp64 (fun hp67 => ?_) fun hp70 => ?_
    ·refine sR 28 td200 ?_;refine rR (.bool false) Tryz.func50 ?_;cases oI hp67;exact hR _ _ ⟨rfl,hS38.drop⟩
    refine sR 2 (iR p50_14 7 25::td200) ?_;refine rL1 3 (.tmp 91) 3 (hS38.blk 0 rfl) ?_;refine sI 2 (iR p50_14 10 22::td200) 94 hp70 (fun hp73 => ?_) fun hp76 => ?_
    ·refine sR 23 td200 ?_;refine rR (.bool false) Tryz.func50 ?_;cases oI hp73;exact hR _ _ ⟨rfl,hS38.drop⟩
    refine sI 14 (iR p50_14 24 8::td200) 108 hp76 (fun hp79 => ?_) fun hp88 => ?_
    ·refine sR 2 (iR p50_14 26 6::td200) ?_;refine rL1 2 (.tmp 110) 4 (hS38.blk 0 rfl) ?_;refine sI 1 (iR p50_14 28 4::td200) 112 hp79 (fun hp82 => ?_) fun hp85 => ?_
     ·refine sR 5 td200 ?_;refine rR (.bool false) Tryz.func50 ?_;cases oI hp82;exact hR _ _ ⟨rfl,hS38.drop⟩
     refine sR 5 td200 ?_;refine rR (.bool true) Tryz.func50 ?_;cases oI hp85;exact hR _ _ ⟨rfl,hS38.drop⟩
    refine sR 9 td200 ?_;refine rR (.bool true) Tryz.func50 ?_;cases oI hp88;exact hR _ _ ⟨rfl,hS38.drop⟩
   cases t6
   ·have hp91:=ite_f hv35 rfl;refine sR 16 (iR p50_11 18 4::td199) ?_;refine rL1 3 (.tmp 80) 2 (hS29.blk 0 rfl) ?_;refine sI 1 (.inRegion (opsOf p50_11) [20,21]::td199) 82 hp91 (fun hp94 => ?_) fun hp97 => ?_
    ·refine sR 8 td201 ?_;refine rR (.bool false) Tryz.func50 ?_;cases hq39 _ (oI hp94);exact hR _ _ ⟨rfl,hS29.drop⟩
    refine sR 5 td198 ?_;exact rF _ (J40 (oI hp97) _ _ hS29)
   have hp98:=ite_t hv35 rfl;refine sR 1 (iR p50_11 3 19::td199) ?_;refine rL1 3 (.tmp 65) 2 (hS29.blk 0 rfl) ?_;refine sI 1 (iR p50_11 5 17::td199) 67 hp98 (fun hp101 => ?_) fun hp104 => ?_
   ·refine sR 23 td201 ?_;refine rR (.bool false) Tryz.func50 ?_;cases hq39 _ (oI hp101);exact hR _ _ ⟨rfl,hS29.drop⟩
   refine sR 2 (iR p50_11 7 15::td199) ?_;refine rL1 3 (.tmp 69) 2 (hS29.blk 0 rfl) ?_;refine sI 3 (iR p50_11 11 11::td199) 73 hp104 (fun hp107 => ?_) fun hp110 => ?_
   ·refine sR 17 td201 ?_;refine rR (.bool false) Tryz.func50 ?_;cases hq39 _ (oI hp107);exact hR _ _ ⟨rfl,hS29.drop⟩
   refine sR 14 td198 ?_;exact rF _ (J40 (oI hp110) _ _ hS29)
  refine sI 1 (.inRegion (opsOf (cd50 60)) []::.code (cd50 61)::td197) 30 hv26 (fun hp113 => ?_) fun hp131 => ?_
  ·refine sR 5 (.inRegion (opsOf (cd50 244)) [1,2]::.code (cd50 245)::td197) ?_;obtain ⟨t114,hr115,hp116⟩:=bind_some' hp113;refine rC (weirref09_number.ok hr115 hS12 ha1) ?_;rintro _ w117 ⟨rfl,hS118⟩;refine ⟨_,rfl,?_⟩;refine sI 6 (iR (cd50 490) 2 6::td202) 34 hp116 (fun hp121 => ?_) fun hp124 => ?_
   ·refine sR 12 (.code (cd50 1965)::td197) ?_;refine rR (.bool false) Tryz.func50 ?_;cases hq30 _ (oI hp121);exact hR _ _ ⟨rfl,hS118.drop⟩
   refine sR 2 (iR (cd50 490) 4 4::td202) ?_;refine rL1 3 (.tmp 36) 1 (hS118.blk 0 rfl) ?_;refine sI 2 (.inRegion (opsOf (cd50 490)) [7]::td202) 39 hp124 (fun hp127 => ?_) fun hp130 => ?_
   ·refine sR 7 (.code (cd50 1965)::td197) ?_;refine rR (.bool false) Tryz.func50 ?_;cases hq30 _ (oI hp127);exact hR _ _ ⟨rfl,hS118.drop⟩
   refine sR 4 td197 ?_;exact rF _ (J31 (oI hp130) _ _ hS118)
  refine sR 6 (iR p50_22 2 20::td203) ?_;cases t5
  ·have hp132:=ite_f hp131 rfl;refine sR 16 (iR p50_22 18 4::td203) ?_;refine rL1 3 (.tmp 58) 1 (hS12.blk 0 rfl) ?_;refine sI 1 (.inRegion (opsOf p50_22) [20,21]::td203) 60 hp132 (fun hp135 => ?_) fun hp138 => ?_
   ·refine sR 8 td204 ?_;refine rR (.bool false) Tryz.func50 ?_;cases hq30 _ (oI hp135);exact hR _ _ ⟨rfl,hS12.drop⟩
   refine sR 5 td197 ?_;exact rF _ (J31 (oI hp138) _ _ hS12)
  have hp139:=ite_t hp131 rfl;refine sR 1 (iR p50_22 3 19::td203) ?_;refine rL1 3 (.tmp 43) 1 (hS12.blk 0 rfl) ?_;refine sI 1 (iR p50_22 5 17::td203) 45 hp139 (fun hp142 => ?_) fun hp145 => ?_
  ·refine sR 23 td204 ?_;refine rR (.bool false) Tryz.func50 ?_;cases hq30 _ (oI hp142);exact hR _ _ ⟨rfl,hS12.drop⟩
  refine sR 2 (iR p50_22 7 15::td203) ?_;refine rL1 3 (.tmp 47) 1 (hS12.blk 0 rfl) ?_;refine sI 3 (iR p50_22 11 11::td203) 51 hp145 (fun hp148 => ?_) fun hp151 => ?_
  ·refine sR 17 td204 ?_;refine rR (.bool false) Tryz.func50 ?_;cases hq30 _ (oI hp148);exact hR _ _ ⟨rfl,hS12.drop⟩
  refine sR 14 td197 ?_;exact rF _ (J31 (oI hp151) _ _ hS12)

noncomputable def cd78 (p : Nat) : Code := sub (bodyOf Tryz.f78) (pth p)
abbrev td206:=tB 0 (tC (cd78 7) [])
abbrev td207:=tC (cd78 53) td206
abbrev td208:=tC (cd78 215) td206
def weirref09_weight.f (a0 : Int) : Option Int :=
  (((if (a0 == 3) = true then some (true) else (if (a0 == 4) = true then some (true) else (if (a0 == 5) = true then some (true) else (if (a0 == 6) = true then some (true) else some (false))))) : Option Bool) >>= (fun t4 => (if t4 = true then some (1) else (((if (a0 == 7) = true then some (true) else (if (a0 == 8) = true then some (true) else (if (a0 == 9) = true then some (true) else some (false)))) : Option Bool) >>= (fun t14 => (if t14 = true then some (2) else some (0)))))))
theorem weirref09_weight.ok {a0 q0 : Int} (hp0 : weirref09_weight.f a0 = some q0) (hS0 : St w0 Z (fs) w) :
    Calls Tryz.prog 78 #[.int .i64 a0] w (fun e w' => e = .returned (.int .i64 q0) ∧ St w0 Z (fs) w'):=by
  refine calls_abs ?_; intro R hR;unfold weirref09_weight.f at hp0;refine c0 Tryz.func78 (cd78 1) 12 ?_;obtain ⟨v1,hv2,hp3⟩:=bind_some' hp0;have J7 : ∀ t4 (he9 : t4 = v1) l8 w5 (hS6 : St w0 Z (fs) w5),Rn Tryz.prog 78 td207 13 [(3,.int .i64 a0),(4,.bool t4)] l8 w5 R:=by
   intro t4 he9 l8 w5 hS6;subst he9;(try dsimp only at hp3);cases t4
   ·have hp10:=ite_f hp3 rfl;obtain ⟨v11,hv12,hp13⟩:=bind_some' hp10;have J17 : ∀ t14 (he19 : t14 = v11) l18 w15 (hS16 : St w0 Z (fs) w15),Rn Tryz.prog 78 td208 13 [(9,.bool t14)] l18 w15 R:=by
     intro t14 he19 l18 w15 hS16;subst he19;(try dsimp only at hp13);cases t14
     ·have hp20:=ite_f hp13 rfl;refine sR 7 [.code (cd78 15)] ?_;refine rR (.int .i64 0) Tryz.func78 ?_;cases oI hp20;exact hR _ _ ⟨rfl,hS16⟩
     have hp22:=ite_t hp13 rfl;refine sR 5 (.code (cd78 861)::td206) ?_;refine rR (.int .i64 2) Tryz.func78 ?_;cases oI hp22;exact hR _ _ ⟨rfl,hS16⟩
    refine sI 5 (.inRegion (opsOf (cd78 428)) [1]::.code (cd78 429)::td208) 10 hv12 (fun hp26 => ?_) fun hp27 => ?_
    ·refine sR 4 td208 ?_;exact rF _ (J17 _ (oI hp26) _ _ hS6)
    refine sI 6 (.inRegion (opsOf (cd78 1718)) [1]::.code (cd78 1719)::td208) 11 hp27 (fun hp30 => ?_) fun hp31 => ?_
    ·refine sR 4 td208 ?_;exact rF _ (J17 _ (oI hp30) _ _ hS6)
    refine sI 5 (.inRegion (opsOf (cd78 3439)) [1]::td208) 12 hp31 (fun hp34 => ?_) fun hp35 => ?_
    ·refine sR 2 td208 ?_;exact rF _ (J17 _ (oI hp34) _ _ hS6)
    refine sR 2 td208 ?_;exact rF _ (J17 _ (oI hp35) _ _ hS6)
   have hp36:=ite_t hp3 rfl;refine sR 5 (.code (cd78 213)::td206) ?_;refine rR (.int .i64 1) Tryz.func78 ?_;cases oI hp36;exact hR _ _ ⟨rfl,hS6⟩
  refine sI 14 (.inRegion (opsOf (cd78 104)) [1]::.code (cd78 105)::td207) 5 hv2 (fun hp40 => ?_) fun hp41 => ?_
  ·refine sR 4 td207 ?_;exact rF _ (J7 _ (oI hp40) _ _ hS0)
  refine sI 6 (.inRegion (opsOf (cd78 422)) [1]::.code (cd78 423)::td207) 6 hp41 (fun hp44 => ?_) fun hp45 => ?_
  ·refine sR 4 td207 ?_;exact rF _ (J7 _ (oI hp44) _ _ hS0)
  refine sI 6 (.inRegion (opsOf (cd78 1694)) [1]::.code (cd78 1695)::td207) 7 hp45 (fun hp48 => ?_) fun hp49 => ?_
  ·refine sR 4 td207 ?_;exact rF _ (J7 _ (oI hp48) _ _ hS0)
  refine sI 5 (.inRegion (opsOf (cd78 3391)) [1]::td207) 8 hp49 (fun hp52 => ?_) fun hp53 => ?_
  ·refine sR 2 td207 ?_;exact rF _ (J7 _ (oI hp52) _ _ hS0)
  refine sR 2 td207 ?_;exact rF _ (J7 _ (oI hp53) _ _ hS0)

noncomputable def cd51 (p : Nat) : Code := sub (bodyOf Tryz.f51) (pth p)
abbrev td209:=tC (cd51 15) []
abbrev td211:List Item:=.inLoop (cd51 116)::(tB 0 td209)
abbrev td212:=tC (cd51 116) td211
abbrev td214:=tB 1 (tC (cd51 467) td211)
abbrev td216:List Item:=.inLoop (cd51 7460)::(tB 2 td214)
abbrev td217:=tC (cd51 7460) td216
abbrev td219:=tC (cd51 29841) (tC (cd51 14921) td216)
abbrev td221:=tB 3 (tC (cd51 29843) td216)
def weirref09_Events.l1 (a0 : api_Prog) (t16 t38 t39 : Int) : Option Int :=
  (if 0 ≤ t16 ∧ t16 < (a0.Threads.length : Int) then (if (decide (t39 < ((gt a0.Threads t16).length : Int))) = true then (if 0 ≤ t16 ∧ t16 < (a0.Threads.length : Int) then (if 0 ≤ t39 ∧ t39 < ((gt a0.Threads t16).length : Int) then (weirref09_weight.f ((gt (gt a0.Threads t16) t39).Kind) >>= (fun t84 => (weirref09_Events.l1 a0 t16 (IntKind.i64.wrap (t38 + t84)) (IntKind.i64.wrap (t39 + 1))))) else none) else none) else some (t38)) else none)
 partial_fixpoint
def weirref09_Events.l0 (a0 : api_Prog) (t15 t16 : Int) : Option Int :=
  (if (decide (t16 < (a0.Threads.length : Int))) = true then (weirref09_Events.l1 a0 t16 t15 0 >>= (fun t32 => (weirref09_Events.l0 a0 t32 (IntKind.i64.wrap (t16 + 1))))) else some (t15))
 partial_fixpoint
def weirref09_Events.f (a0 : api_Prog) : Option Int :=
  (weirref09_Events.l0 a0 (a0.Locs.length : Int) 0 >>= (fun t8 => some (t8)))
theorem weirref09_Events.ok {a0 : api_Prog} {y0 : Option Addr} {y1 : Nat} {y2 : Option Addr} {y3 : Nat} {y4 : Option Addr} {y5 : Nat} {y6 : Option Addr} {y7 : Nat} {y8 : Option Addr} {y9 : Nat} {q0 : Int} (hp0 : weirref09_Events.f a0 = some q0) (hS0 : St w0 Z (fs) w) (y10 : SlZ (repL (flat enc_api_Op) 5) 1 Z y0 y1 a0.Threads) (y11 : SlZ (repL (flat encS) 1) 1 Z y2 y3 a0.Regs) (y12 : SlZ (flat encS) 1 Z y4 y5 a0.Locs) (y13 : SlZ (repL (flat (encI .i64)) 1) 1 Z y6 y7 a0.RegInit) (y14 : SlZ (flat (encI .i64)) 1 Z y8 y9 a0.LocInit) :
    Calls Tryz.prog 51 #[.agg (ce_api_Prog a0 y0 y1 y2 y3 y4 y5 y6 y7 y8 y9).toArray] w (fun e w' => e = .returned (.int .i64 q0) ∧ St w0 Z (fs) w'):=by
  refine calls_abs ?_; intro R hR;unfold weirref09_Events.f at hp0;refine c0 Tryz.func51 (cd51 1) 38 ?_;refine sR 2 [.inRegion (opsOf (cd51 2)) [0,1],.code (cd51 3)] ?_;refine rB 28 (.tmp 0) (ce_api_Prog a0 y0 y1 y2 y3 y4 y5 y6 y7 y8 y9) hS0 ?_;intro b1 w2 hS3;let u2 : Nat × Value:=(1,.pointer (some ⟨b1,0,none⟩));let u1:=xblk b1 28 ((ce_api_Prog a0 y0 y1 y2 y3 y4 y5 y6 y7 y8 y9));refine sR 5 [.inRegion (opsOf (cd51 6)) [1,2,3],.code (cd51 7)] ?_;refine rL1 24 (.tmp 6) 2 (hS3.blk 0 rfl) ?_;refine sR 10 td212 ?_;obtain ⟨v5,hv6,hp7⟩:=bind_some' hp0;have J11 : ∀ t8 (he13 : t8 = v5) l12 w9 (hS10 : St w0 Z (fs) w9),Rn Tryz.prog 51 td209 39 [(3,.int .i64 t8)] l12 w9 R:=by
   intro t8 he13 l12 w9 hS10;subst he13;(try dsimp only at hp7);refine sR 5 [.code (cd51 31)] ?_;refine rR (.int .i64 t8) Tryz.func51 ?_;cases oI hp7;exact hR _ _ ⟨rfl,hS10⟩
  have L25 : ∀ t15 t16 e20,weirref09_Events.l0 a0 t15 t16 = some e20 → e20 = v5 → ∀ l19 w17 (hS18 : St w0 Z (u1::fs) w17),Rn Tryz.prog 51 td212 39 [u2,(3,.int .i64 t15),(4,.int .i64 t16)] l19 w17 R:=by
   refine weirref09_Events.l0.partial_correctness a0 (fun t15 t16 e20 => e20 = v5 → ∀ (l19 : List Value) (w17 : World) (hS18 : St w0 Z (u1::fs) w17),Rn Tryz.prog 51 td212 39 [u2,(3,.int .i64 t15),(4,.int .i64 t16)] l19 w17 R) ?_;intro rec24 ih23 t15 t16 e20 hb22 he21 l19 w17 hS18;refine sR 5 (.inRegion (opsOf (cd51 464)) [2,3,4]::.code (cd51 465)::.code (cd51 233)::td211) ?_;refine rL1 22 (.tmp 10) 0 (hS18.blk 0 rfl) ?_;refine sI 2 (.inRegion (opsOf (cd51 464)) []::.code (cd51 465)::.code (cd51 233)::td211) 13 hb22 (fun hp28 => ?_) fun hp90 => ?_
   ·refine sR 11 td217 ?_;obtain ⟨v29,hv30,hp31⟩:=bind_some' hp28;have J35 : ∀ t32 (he37 : t32 = v29) l36 w33 (hS34 : St w0 Z (u1::fs) w33),Rn Tryz.prog 51 td214 39 [u2,(3,.int .i64 t32),(4,.int .i64 t16)] l36 w33 R:=by
     intro t32 he37 l36 w33 hS34;subst he37;(try dsimp only at hp31);refine sR 6 td211 ?_;refine sR 1 td212 ?_;exact rF _ (ih23 _ _ _ hp31 he21 _ _ hS34)
    have L48 : ∀ t38 t39 e43,weirref09_Events.l1 a0 t16 t38 t39 = some e43 → e43 = v29 → ∀ l42 w40 (hS41 : St w0 Z (u1::fs) w40),Rn Tryz.prog 51 td217 39 [u2,(3,.int .i64 t38),(4,.int .i64 t16),(5,.int .i64 t39)] l42 w40 R:=by
     refine weirref09_Events.l1.partial_correctness a0 t16 (fun t38 t39 e43 => e43 = v29 → ∀ (l42 : List Value) (w40 : World) (hS41 : St w0 Z (u1::fs) w40),Rn Tryz.prog 51 td217 39 [u2,(3,.int .i64 t38),(4,.int .i64 t16),(5,.int .i64 t39)] l42 w40 R) ?_;intro rec47 ih46 t38 t39 e43 hb45 he44 l42 w40 hS41;refine sR 5 (iR (cd51 29840) 2 6::td219) ?_;refine rL1 22 (.tmp 17) 0 (hS41.blk 0 rfl) ?_;refine sR 1 (iR (cd51 29840) 4 4::td219) ?_;obtain ⟨g49,hp50⟩:=ite_some hb45;obtain ⟨b51,p52,cs55,hA53,hr56,hl57,hc54⟩:=y10.at_ g49.1 g49.2;obtain ⟨A58,c59,rfl,hs60⟩:=hr56;refine rX 22 1 (.tmp 18) (.tmp 19) hA53 g49 ?_;refine rL1 101 (.tmp 20) 0 (hc54.cells hS41) ?_;refine sI 2 (.inRegion (opsOf (cd51 29840)) []::td219) 23 hp50 (fun hp64 => ?_) fun hp89 => ?_
     ·refine sR 8 (iR (cd51 59684) 2 11::td221) ?_;refine rL1 22 (.tmp 27) 0 (hS41.blk 0 rfl) ?_;refine sR 1 (iR (cd51 59684) 4 9::td221) ?_;obtain ⟨g65,hp66⟩:=ite_some hp64;obtain ⟨b67,p68,cs71,hA69,hr72,hl73,hc70⟩:=y10.at_ g65.1 g65.2;obtain ⟨A74,c75,rfl,hs76⟩:=hr72;refine rX 22 1 (.tmp 28) (.tmp 29) hA69 g65 ?_;refine rL1 101 (.tmp 30) 0 (hc70.cells hS41) ?_;refine sR 1 (iR (cd51 59684) 7 6::td221) ?_;obtain ⟨g78,hp79⟩:=ite_some hp66;obtain ⟨b80,p81,hA82,hc83⟩:=hs76.atF g78.1 g78.2;refine rX 101 5 (.tmp 31) (.tmp 32) hA82 g78 ?_;refine sR 1 (iR (cd51 59684) 9 4::td221) ?_;refine rL1 3 (.tmp 34) 0 (hc83.cells hS41) ?_;obtain ⟨t84,hr85,hp86⟩:=bind_some' hp79;refine rC (weirref09_weight.ok hr85 hS41) ?_;rintro _ w87 ⟨rfl,hS88⟩;refine ⟨_,rfl,?_⟩;refine sR 9 td216 ?_;refine sR 1 td217 ?_;exact rF _ (ih46 _ _ _ hp86 he44 _ _ hS88)
     refine sR 3 td214 ?_;exact rF _ (J35 _ ((oI hp89).trans he44) _ _ hS41)
    exact rF _ (L48 _ _ _ hv30 rfl _ _ hS18)
   refine sR 3 td209 ?_;exact rF _ (J11 _ ((oI hp90).trans he21) _ _ hS18.drop)
  exact rF _ (L25 _ _ _ hv6 rfl _ _ hS3)

end
end Go.Proofs.YtcjaknnihjcajaaGreat.K
