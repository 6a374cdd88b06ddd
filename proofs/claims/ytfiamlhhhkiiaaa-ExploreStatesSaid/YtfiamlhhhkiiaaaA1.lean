/- The walk, part 1: each Go function as a plain Lean function, and that its call answers as that function says. No condition. -/
import Derived.Test.YtfiamlhhhkiiaaaE
import Derived.Test.YtfiamlhhhkiiaaaNG
import Derived.Test.YtfiamlhhhkiiaaaNP
import Derived.Test.YtfiamlhhhkiiaaaNM
import Derived.Test.YtfiamlhhhkiiaaaNQ
import Derived.Test.YtfiamlhhhkiiaaaNI
import Derived.Test.YtfiamlhhhkiiaaaNX
import Derived.Test.YtfiamlhhhkiiaaaNY
import Derived.Test.YtfiamlhhhkiiaaaNC
import Derived.Test.YtfiamlhhhkiiaaaNF
import Derived.Test.YtfiamlhhhkiiaaaNW
import Derived.Test.YtfiamlhhhkiiaaaNK
import Derived.Test.YtfiamlhhhkiiaaaND
import Derived.Test.YtfiamlhhhkiiaaaAB
set_option linter.unusedVariables false
set_option linter.unusedSimpArgs false
set_option maxRecDepth 100000
set_option synthInstance.maxSize 100000
set_option synthInstance.maxHeartbeats 4000000
namespace Go.Proofs.Ytfiamlhhhkiiaaa.K
open Go Go.RowKit
noncomputable section
set_option maxHeartbeats 16000000
variable {w0 : World} {Z : Zm} {fs : List XObj} {w : World}
noncomputable def cd8 (p : List Nat) : Code := sub (bodyOf Try.f8) p
abbrev p8_4:=cd8 [1,1,1,0]
abbrev p8_6:=cd8 [1,1,0,1,0,0,0,0]
abbrev p8_9:=cd8 [1,1,0,1,0,0,1,0,0,0]
abbrev p8_10:=cd8 [1,1,0,1,0,0,1,0,0,1]
abbrev p8_12:=cd8 [1,1,0,1,0,0,1,0,0,1,0]
abbrev p8_14:=cd8 [1,1,0,1,0,0,1,0,0,1,1,0,1]
abbrev td1:List Item:=[.code (cd8 [1,1,1])]
abbrev td2:List Item:=.inBlock 0::td1
abbrev td3:List Item:=.inLoop (cd8 [1,1,0,1,0,0])::td2
abbrev td4:List Item:=.code (cd8 [1,1,0,1,0,0])::td3
abbrev td5:List Item:=[.code (cd8 [1,1,1,1])]
abbrev td6:List Item:=.code (cd8 [1,1,0,1,0,0,1])::td3
abbrev td7:List Item:=.code (cd8 [1,1,0,1,0,0,0,1])::td6
abbrev td8:List Item:=.code (cd8 [1,1,0,1,0,0,1,1])::td3
abbrev td9:List Item:=.inBlock 1::td8
abbrev td10:List Item:=.code (cd8 [1,1,0,1,0,0,1,0,0,1,1])::td9
def weirlaw14_Net__fine.l0 (a0 : weirlaw14_Net) (t41 t42 : Int) : Option (Sum Int Bool) :=
  (if (decide (t42 < (a0.Next.length : Int))) = true then (if (decide (t41 ≤ 200000)) = true then (if 0 ≤ t42 ∧ t42 < (a0.Next.length : Int) then (if 0 ≤ t42 ∧ t42 < (a0.Next.length : Int) then (if (decide (((gt a0.Next t42).length : Int) > 60000)) = true then some (.inr (false)) else (weirlaw14_Net__fine.l0 a0 (IntKind.i64.wrap (t41 + ((gt a0.Next t42).length : Int))) (IntKind.i64.wrap (t42 + 1)))) else none) else none) else some (.inl t41)) else some (.inl t41))
 partial_fixpoint
def weirlaw14_Net__fine.f (a0 : weirlaw14_Net) : Option Bool :=
  (weirlaw14_Net__fine.l0 a0 0 0 >>= (fun | .inl t8 => (if (decide ((a0.Next.length : Int) ≤ 60000)) = true then (if (decide (t8 ≤ 200000)) = true then (if (decide (a0.Start ≥ 0)) = true then (if (decide (a0.Start < (a0.Next.length : Int))) = true then some (true) else some (false)) else some (false)) else some (false)) else some (false)) | .inr e => some e))
theorem weirlaw14_Net__fine.ok {a0 : weirlaw14_Net} {y0 : Option Addr} {y1 : Nat} {y2 : Option Addr} {y3 : Nat} {y4 : Option Addr} {y5 : Nat} {q0 : Bool} (hp0 : weirlaw14_Net__fine.f a0 = some q0) (hS0 : St w0 Z (fs) w) (y6 : SlZ (repL (flat (encI .i64)) 1) 1 Z y0 y1 a0.Next) (y7 : SlZ (flat encB) 1 Z y2 y3 a0.End) (y8 : SlZ (flat (encI .i64)) 1 Z y4 y5 a0.Value) :
    Calls Try.prog 8 #[.agg #[.slice y0 a0.Next.length y1,.slice y2 a0.End.length y3,.slice y4 a0.Value.length y5,.int .i64 a0.Start]] w (fun e w' => e = .returned (.bool q0) ∧ St w0 Z (fs) w'):=by
  refine calls_abs ?_; intro R hR
  unfold weirlaw14_Net__fine.f at hp0
  refine calls_of_runs (fn:=Try.f8) (c:=cd8 []) Try.func8 (by kernel_rfl) (al:=[.agg #[.slice y0 a0.Next.length y1,.slice y2 a0.End.length y3,.slice y4 a0.Value.length y5,.int .i64 a0.Start]]) rfl (n:=51) rfl ?_
  refine sR 2 [.inRegion (opsOf (cd8 [0])) [0,1],.code (cd8 [1])] ?_
  refine r_box (c:=(cd8 [0])) (i:=0) (d:=(some 1)) (ty:=0) (x:=(.tmp 0)) (v:=.agg #[.slice y0 a0.Next.length y1,.slice y2 a0.End.length y3,.slice y4 a0.Value.length y5,.int .i64 a0.Start]) (t:=26) (cs:=[.slice y0 a0.Next.length y1,.slice y2 a0.End.length y3,.slice y4 a0.Value.length y5,.int .i64 a0.Start]) hS0 (by kernel_rfl) (by kernel_rfl) (by kernel_rfl) (by kernel_rfl) ?_
  intro b1 w2 hS3
  refine sR 13 td4 ?_
  obtain ⟨v5,hv6,hp7⟩:=bind_some' hp0
  have hq11 : ∀ x,Sum.inr x = v5 → x = q0:=by intro x hx; subst hx; simpa using hp7
  have J12 : ∀ (t8 : Int) (he14 : Sum.inl t8 = v5) (l13 : List Value) (w9 : World) (hS10 : St w0 Z (xblk b1 26 ([.slice y0 a0.Next.length y1,.slice y2 a0.End.length y3,.slice y4 a0.Value.length y5,.int .i64 a0.Start])::fs) w9),Runs Try.prog (fx 8) td1 (fill (mk 52 [(1,.pointer (some ⟨b1,0,none⟩)),(3,.int .i64 t8)]) l13) w9 R:=by
   intro t8 he14 l13 w9 hS10
   subst he14
   try dsimp only at hp7
   refine sR 3 (iR p8_4 1 21::td5) ?_
   refine rL1 22 (.tmp 31) 0 (hS10.blk 0 rfl) ?_
   refine sI 2 (iR p8_4 4 18::td5) 34 hp7 (fun hp17 => ?_) fun hp38 => ?_
   ·refine sI 3 (iR p8_4 7 15::td5) 37 hp17 (fun hp20 => ?_) fun hp35 => ?_
    ·refine sR 3 (iR p8_4 10 12::td5) ?_
     refine rL1 3 (.tmp 40) 3 (hS10.blk 0 rfl) ?_
     refine sI 1 (iR p8_4 12 10::td5) 42 hp20 (fun hp23 => ?_) fun hp32 => ?_
     ·refine sR 3 (iR p8_4 15 7::td5) ?_
      refine rL1 3 (.tmp 45) 3 (hS10.blk 0 rfl) ?_
      refine sR 1 (iR p8_4 17 5::td5) ?_
      refine rL1 22 (.tmp 47) 0 (hS10.blk 0 rfl) ?_
      refine sI 2 (.inRegion (opsOf p8_4) [20,21]::td5) 50 hp23 (fun hp26 => ?_) fun hp29 => ?_
      ·refine sR 3 td5 ?_
       have hS27:=hS10.drop
       refine rR (.bool true) Try.func8 ?_
       cases Option.some.inj hp26
       exact hR _ _ ⟨rfl,hS27⟩
      refine sR 3 td5 ?_
      have hS30:=hS10.drop
      refine rR (.bool false) Try.func8 ?_
      cases Option.some.inj hp29
      exact hR _ _ ⟨rfl,hS30⟩
     refine sR 11 td5 ?_
     have hS33:=hS10.drop
     refine rR (.bool false) Try.func8 ?_
     cases Option.some.inj hp32
     exact hR _ _ ⟨rfl,hS33⟩
    refine sR 16 td5 ?_
    have hS36:=hS10.drop
    refine rR (.bool false) Try.func8 ?_
    cases Option.some.inj hp35
    exact hR _ _ ⟨rfl,hS36⟩
   refine sR 19 td5 ?_
   have hS39:=hS10.drop
   refine rR (.bool false) Try.func8 ?_
   cases Option.some.inj hp38
   exact hR _ _ ⟨rfl,hS39⟩
  have L51 : ∀ (t41 t42 : Int) (e46 : Sum Int Bool),weirlaw14_Net__fine.l0 a0 t41 t42 = some e46 → e46 = v5 → ∀ (l45 : List Value) (w43 : World) (hS44 : St w0 Z (xblk b1 26 ([.slice y0 a0.Next.length y1,.slice y2 a0.End.length y3,.slice y4 a0.Value.length y5,.int .i64 a0.Start])::fs) w43),Runs Try.prog (fx 8) td4 (fill (mk 52 [(1,.pointer (some ⟨b1,0,none⟩)),(3,.int .i64 t41),(4,.int .i64 t42)]) l45) w43 R:=by
   refine weirlaw14_Net__fine.l0.partial_correctness a0 (fun t41 t42 e46 => e46 = v5 → ∀ (l45 : List Value) (w43 : World) (hS44 : St w0 Z (xblk b1 26 ([.slice y0 a0.Next.length y1,.slice y2 a0.End.length y3,.slice y4 a0.Value.length y5,.int .i64 a0.Start])::fs) w43),Runs Try.prog (fx 8) td4 (fill (mk 52 [(1,.pointer (some ⟨b1,0,none⟩)),(3,.int .i64 t41),(4,.int .i64 t42)]) l45) w43 R) ?_
   intro rec50 ih49 t41 t42 e46 hb48 he47 l45 w43 hS44
   have hq52 : ∀ x,Sum.inr x = e46 → x = q0:=fun x hx => hq11 x (hx.trans he47)
   refine sR 5 (iR p8_6 2 7::td7) ?_
   refine rL1 22 (.tmp 6) 0 (hS44.blk 0 rfl) ?_
   refine sI 2 (iR p8_6 5 4::td7) 9 hb48 (fun hp55 => ?_) fun hp92 => ?_
   ·refine sI 3 (.inRegion (opsOf p8_6) [8]::td7) 12 hp55 (fun hp58 => ?_) fun hp91 => ?_
    ·refine sR 10 (iR p8_9 2 7::.code p8_10::td9) ?_
     refine rL1 22 (.tmp 17) 0 (hS44.blk 0 rfl) ?_
     refine sR 1 (iR p8_9 4 5::.code p8_10::td9) ?_
     obtain ⟨g59,hp60⟩:=ite_some hp58
     obtain ⟨b61,p62,cs65,hA63,hr66,hl67,hc64⟩:=y6.at_ g59.1 g59.2
     obtain ⟨A68,c69,rfl,hs70⟩:=hr66
     refine r_indexAddr (c:=p8_9) (i:=4) (d:=(some 20)) (ty:=0) (t:=22) (e:=37) (n:=a0.Next.length) (cp:=y1) (sz:=1) (kk:=.i64) (x:=(.tmp 18)) (y:=(.tmp 19)) (b:=b61) (o':=p62) (j:=t42) (by kernel_rfl) (by kernel_rfl) (slv (by kernel_rfl) hA63) (by kernel_rfl) (by kernel_rfl) (by kernel_rfl) g59.1 g59.2 ?_
     refine rL1 37 (.tmp 20) 0 (hc64.cells hS44) ?_
     refine sR 7 (iR p8_12 1 6::td10) ?_
     refine rL1 22 (.tmp 24) 0 (hS44.blk 0 rfl) ?_
     refine sR 1 (iR p8_12 3 4::td10) ?_
     obtain ⟨g72,hp73⟩:=ite_some hp60
     obtain ⟨b74,p75,cs78,hA76,hr79,hl80,hc77⟩:=y6.at_ g72.1 g72.2
     obtain ⟨A81,c82,rfl,hs83⟩:=hr79
     refine r_indexAddr (c:=p8_12) (i:=3) (d:=(some 27)) (ty:=0) (t:=22) (e:=37) (n:=a0.Next.length) (cp:=y1) (sz:=1) (kk:=.i64) (x:=(.tmp 25)) (y:=(.tmp 26)) (b:=b74) (o':=p75) (j:=t42) (by kernel_rfl) (by kernel_rfl) (slv (by kernel_rfl) hA76) (by kernel_rfl) (by kernel_rfl) (by kernel_rfl) g72.1 g72.2 ?_
     refine rL1 37 (.tmp 27) 0 (hc77.cells hS44) ?_
     refine sI 2 (.inRegion (opsOf p8_12) []::td10) 30 hp73 (fun hp87 => ?_) fun hp90 => ?_
     ·refine sR 6 (.code p8_14::td9) ?_
      refine r_isret (c:=p8_14) (by kernel_rfl) ?_
      have hS88:=hS44.drop
      refine rR (.bool false) Try.func8 ?_
      cases hq52 _ (Option.some.inj hp87)
      exact hR _ _ ⟨rfl,hS88⟩
     refine sR 9 td3 ?_
     refine sR 1 td4 ?_
     exact rF _ (ih49 (IntKind.i64.wrap (t41 + ((gt a0.Next t42).length : Int))) (IntKind.i64.wrap (t42 + 1)) _ hp90 he47 _ _ hS44)
    refine sR 4 td1 ?_
    exact rF _ (J12 t41 ((Option.some.inj hp91).trans he47) _ _ hS44)
   refine sR 7 td1 ?_
   exact rF _ (J12 t41 ((Option.some.inj hp92).trans he47) _ _ hS44)
  exact rF _ (L51 0 0 _ hv6 rfl _ _ hS3)

noncomputable def cd13 (p : List Nat) : Code := sub (bodyOf Try.f13) p
def weirlaw14_name.f (a0 : Int) : Option ByteArray :=
  (if (⟨#[115]⟩ : ByteArray).size + (ofBytes ([(IntKind.u8.wrap (shrI .i64 a0 8)),(IntKind.u8.wrap a0)] : List Int)).size ≤ 9223372036854775807 then some (((⟨#[115]⟩ : ByteArray) ++ (ofBytes ([(IntKind.u8.wrap (shrI .i64 a0 8)),(IntKind.u8.wrap a0)] : List Int)))) else none)
theorem weirlaw14_name.ok {a0 : Int} {q0 : ByteArray} (hp0 : weirlaw14_name.f a0 = some q0) (hS0 : St w0 Z (fs) w) :
    Calls Try.prog 13 #[.int .i64 a0] w (fun e w' => e = .returned (.string q0) ∧ St w0 Z (fs) w'):=by
  refine calls_abs ?_; intro R hR
  unfold weirlaw14_name.f at hp0
  refine calls_of_runs (fn:=Try.f13) (c:=cd13 []) Try.func13 (by kernel_rfl) (al:=[.int .i64 a0]) rfl (n:=10) rfl ?_
  refine sR 11 [iR (cd13 [1,0]) 5 4,.code (cd13 [1,1])] ?_
  refine r_lit (c:=(cd13 [1,0])) (i:=5) (d:=(some 8)) (ty:=104) (t:=104) (e:=5) (sz:=1) (n:=2) (parts:=#[(0,(.tmp 5)),(1,(.tmp 7))]) (vs:=[(0,.int .u8 (IntKind.u8.wrap (shrI .i64 a0 8))),(1,.int .u8 (IntKind.u8.wrap a0))]) (z:=zeroOf Try.prog 5) (cs':=([(IntKind.u8.wrap (shrI .i64 a0 8)),(IntKind.u8.wrap a0)] : List Int).flatMap (encI .u8)) hS0 (by kernel_rfl) (by kernel_rfl) (by kernel_rfl) (by kernel_rfl) (by kernel_rfl) (by decide) (by decide) (by kernel_rfl) rfl (Parts.cons (c:=[.int .u8 (IntKind.u8.wrap (shrI .i64 a0 8))]) (by kernel_rfl) rfl (Parts.cons (c:=[.int .u8 (IntKind.u8.wrap a0)]) (by kernel_rfl) rfl Parts.nil)) rfl ?_
  intro b2 w3 hS4
  refine rV (.convert 104 9 (.tmp 8)) (.string (ofBytes ([(IntKind.u8.wrap (shrI .i64 a0 8)),(IntKind.u8.wrap a0)] : List Int))) (fun o ho _ => x_bytesStr (e:=5) (A:=(some ⟨b2,0,none⟩)) (c:=2) (by kernel_rfl) (src_row (hS4.row 0 rfl) (by omega) (len_encI .u8)) (by kernel_rfl) (by kernel_rfl) (by kernel_rfl) ho) ?_
  obtain ⟨g5,hp6⟩:=ite_some hp0
  refine rV (.binOp .add 9 (.const (.string (⟨#[115]⟩ : ByteArray))) (.tmp 9) 9) (.string ((⟨#[115]⟩ : ByteArray) ++ (ofBytes ([(IntKind.u8.wrap (shrI .i64 a0 8)),(IntKind.u8.wrap a0)] : List Int)))) (fun o ho _ => x_concat (by kernel_rfl) (by kernel_rfl) g5 ho) ?_
  refine sR 2 [.code (cd13 [1,1])] ?_
  have hS7:=hS4.drop
  refine rR (.string ((⟨#[115]⟩ : ByteArray) ++ (ofBytes ([(IntKind.u8.wrap (shrI .i64 a0 8)),(IntKind.u8.wrap a0)] : List Int)))) Try.func13 ?_
  cases Option.some.inj hp6
  exact hR _ _ ⟨rfl,hS7⟩

noncomputable def cd9 (p : List Nat) : Code := sub (bodyOf Try.f9) p
abbrev p9_2:=cd9 [1,0]
def weirlaw14_Net__machine.f (a0 : weirlaw14_Net) : Option (ByteArray × (List (ByteArray × Int)) × (List (ByteArray × Int)) × (List (ByteArray × Int)) × Bool × weirlaw14_Net) :=
  (weirlaw14_name.f a0.Start >>= (fun t34 => some ((t34,([] : List (ByteArray × Int)),([] : List (ByteArray × Int)),([] : List (ByteArray × Int)),false,a0))))
theorem weirlaw14_Net__machine.ok {a0 : weirlaw14_Net} {y0 : Option Addr} {y1 : Nat} {y2 : Option Addr} {y3 : Nat} {y4 : Option Addr} {y5 : Nat} {q0 : ByteArray} {q1 q2 q3 : List (ByteArray × Int)} {q4 : Bool} {q5 : weirlaw14_Net} (hp0 : weirlaw14_Net__machine.f a0 = some (q0,q1,q2,q3,q4,q5)) (hS0 : St w0 Z (fs) w) (y6 : SlZ (repL (flat (encI .i64)) 1) 1 Z y0 y1 a0.Next) (y7 : SlZ (flat encB) 1 Z y2 y3 a0.End) (y8 : SlZ (flat (encI .i64)) 1 Z y4 y5 a0.Value) :
    Calls Try.prog 9 #[.agg #[.slice y0 a0.Next.length y1,.slice y2 a0.End.length y3,.slice y4 a0.Value.length y5,.int .i64 a0.Start]] w (fun e w' => ∃ (Qb0 : Nat) (Qb1 : Nat) (Qb2 : Nat) (Qb3 : Nat) (Qb4 : Nat) (Qb5 : Nat) (QA6 : Option Addr) (Qc6 : Nat) (QA8 : Option Addr) (Qc8 : Nat) (QA10 : Option Addr) (Qc10 : Nat),e = .returned (.tuple #[.agg #[.string q0,.func (.func 28) #[] #[.pointer (some ⟨Qb0,0,none⟩),.pointer (some ⟨Qb5,0,none⟩)],.func (.func 31) #[] #[.pointer (some ⟨Qb5,0,none⟩),.pointer (some ⟨Qb0,0,none⟩)],.func (.func 32) #[] #[.pointer (some ⟨Qb0,0,none⟩),.pointer (some ⟨Qb5,0,none⟩)]],.pointer (some ⟨Qb1,0,none⟩)]) ∧ St w0 Z (xblk Qb0 33 ([.pointer (some ⟨Qb1,0,none⟩)])::xblk Qb1 49 ([.map (some Qb2),.map (some Qb3),.map (some Qb4),.bool q4])::xmap Qb2 (q1.map (kv Value.string (Value.int .i64)))::xmap Qb3 (q2.map (kv Value.string (Value.int .i64)))::xmap Qb4 (q3.map (kv Value.string (Value.int .i64)))::xblk Qb5 26 ([.slice QA6 q5.Next.length Qc6,.slice QA8 q5.End.length Qc8,.slice QA10 q5.Value.length Qc10,.int .i64 q5.Start])::fs) w' ∧ SlZ (repL (flat (encI .i64)) 1) 1 Z QA6 Qc6 q5.Next ∧ SlZ (flat encB) 1 Z QA8 Qc8 q5.End ∧ SlZ (flat (encI .i64)) 1 Z QA10 Qc10 q5.Value):=by
  refine calls_abs ?_; intro R hR
  unfold weirlaw14_Net__machine.f at hp0
  refine calls_of_runs (fn:=Try.f9) (c:=cd9 []) Try.func9 (by kernel_rfl) (al:=[.agg #[.slice y0 a0.Next.length y1,.slice y2 a0.End.length y3,.slice y4 a0.Value.length y5,.int .i64 a0.Start]]) rfl (n:=22) rfl ?_
  refine sR 2 [.inRegion (opsOf (cd9 [0])) [0,1,2],.code (cd9 [1])] ?_
  refine r_box (c:=(cd9 [0])) (i:=0) (d:=(some 1)) (ty:=0) (x:=(.tmp 0)) (v:=.agg #[.slice y0 a0.Next.length y1,.slice y2 a0.End.length y3,.slice y4 a0.Value.length y5,.int .i64 a0.Start]) (t:=26) (cs:=[.slice y0 a0.Next.length y1,.slice y2 a0.End.length y3,.slice y4 a0.Value.length y5,.int .i64 a0.Start]) hS0 (by kernel_rfl) (by kernel_rfl) (by kernel_rfl) (by kernel_rfl) ?_
  intro b1 w2 hS3
  refine rA 32 (.agg #[.string (⟨#[]⟩ : ByteArray),.nilFunc,.nilFunc,.nilFunc]) [.string (⟨#[]⟩ : ByteArray),.nilFunc,.nilFunc,.nilFunc] hS3 ?_
  intro b5 w6 hS7
  refine sR 4 [iR p9_2 0 7,.code (cd9 [1,1])] ?_
  refine r_makeMap (c:=p9_2) (i:=0) (d:=(some 6)) (ty:=41) (t:=41) hS7 (by kernel_rfl) (by kernel_rfl) ?_
  intro b9 w10 hS11
  have hS13 : St w0 Z (xmap b9 (([] : List (ByteArray × Int)).map (kv Value.string (Value.int .i64)))::xblk b5 32 ([.string (⟨#[]⟩ : ByteArray),.nilFunc,.nilFunc,.nilFunc])::xblk b1 26 ([.slice y0 a0.Next.length y1,.slice y2 a0.End.length y3,.slice y4 a0.Value.length y5,.int .i64 a0.Start])::fs) w10:=hS11
  refine r_makeMap (c:=p9_2) (i:=1) (d:=(some 7)) (ty:=41) (t:=41) hS13 (by kernel_rfl) (by kernel_rfl) ?_
  intro b14 w15 hS16
  have hS18 : St w0 Z (xmap b14 (([] : List (ByteArray × Int)).map (kv Value.string (Value.int .i64)))::xmap b9 (([] : List (ByteArray × Int)).map (kv Value.string (Value.int .i64)))::xblk b5 32 ([.string (⟨#[]⟩ : ByteArray),.nilFunc,.nilFunc,.nilFunc])::xblk b1 26 ([.slice y0 a0.Next.length y1,.slice y2 a0.End.length y3,.slice y4 a0.Value.length y5,.int .i64 a0.Start])::fs) w15:=hS16
  refine r_makeMap (c:=p9_2) (i:=2) (d:=(some 8)) (ty:=41) (t:=41) hS18 (by kernel_rfl) (by kernel_rfl) ?_
  intro b19 w20 hS21
  have hS23 : St w0 Z (xmap b19 (([] : List (ByteArray × Int)).map (kv Value.string (Value.int .i64)))::xmap b14 (([] : List (ByteArray × Int)).map (kv Value.string (Value.int .i64)))::xmap b9 (([] : List (ByteArray × Int)).map (kv Value.string (Value.int .i64)))::xblk b5 32 ([.string (⟨#[]⟩ : ByteArray),.nilFunc,.nilFunc,.nilFunc])::xblk b1 26 ([.slice y0 a0.Next.length y1,.slice y2 a0.End.length y3,.slice y4 a0.Value.length y5,.int .i64 a0.Start])::fs) w20:=hS21
  refine sR 1 [.inRegion (opsOf p9_2) [4,5,6],.code (cd9 [1,1])] ?_
  refine r_box (c:=p9_2) (i:=4) (d:=(some 10)) (ty:=33) (x:=(.tmp 9)) (v:=.agg #[.map (some b9),.map (some b14),.map (some b19),.bool false]) (t:=49) (cs:=[.map (some b9),.map (some b14),.map (some b19),.bool false]) hS23 (by kernel_rfl) (by kernel_rfl) (by kernel_rfl) (by kernel_rfl) ?_
  intro b24 w25 hS26
  refine rA 33 (.pointer none) [.pointer none] hS26 ?_
  intro b28 w29 hS30
  refine rS 33 (.tmp 4) (.tmp 10) 0 (.pointer (some ⟨b24,0,none⟩)) [.pointer (some ⟨b24,0,none⟩)] [.pointer (some ⟨b24,0,none⟩)] hS30 ?_
  intro w32 hS33
  refine sR 4 [iR (cd9 [1,1,0]) 1 5,.code (cd9 [1,1,1])] ?_
  refine rL1 3 (.tmp 11) 3 (hS33.blk 6 rfl) ?_
  obtain ⟨t34,hr35,hp36⟩:=bind_some' hp0
  refine rC (weirlaw14_name.ok hr35 hS33) ?_
  rintro _ w37 ⟨rfl,hS38⟩
  refine ⟨_,rfl,?_⟩
  refine sR 1 [.inRegion (opsOf (cd9 [1,1,0])) [4,5],.code (cd9 [1,1,1])] ?_
  refine rA 32 (.agg #[.string (⟨#[]⟩ : ByteArray),.nilFunc,.nilFunc,.nilFunc]) [.string (⟨#[]⟩ : ByteArray),.nilFunc,.nilFunc,.nilFunc] hS38 ?_
  intro b39 w40 hS41
  refine rS 32 (.tmp 5) (.tmp 14) 0 (.agg #[.string t34,.nilFunc,.nilFunc,.nilFunc]) [.string t34,.nilFunc,.nilFunc,.nilFunc] [.string t34,.nilFunc,.nilFunc,.nilFunc] hS41 ?_
  intro w43 hS44
  refine sR 5 [.inRegion (opsOf (cd9 [1,1,1,0])) [2],.code (cd9 [1,1,1,1])] ?_
  refine rS 28 (.tmp 16) (.tmp 15) 1 (.func (.func 28) #[] #[.pointer (some ⟨b28,0,none⟩),.pointer (some ⟨b1,0,none⟩)]) [.func (.func 28) #[] #[.pointer (some ⟨b28,0,none⟩),.pointer (some ⟨b1,0,none⟩)]] [.string t34,.func (.func 28) #[] #[.pointer (some ⟨b28,0,none⟩),.pointer (some ⟨b1,0,none⟩)],.nilFunc,.nilFunc] hS44 ?_
  intro w45 hS46
  refine sR 5 [.inRegion (opsOf (cd9 [1,1,1,1,0])) [2],.code (cd9 [1,1,1,1,1])] ?_
  refine rS 29 (.tmp 18) (.tmp 17) 2 (.func (.func 31) #[] #[.pointer (some ⟨b1,0,none⟩),.pointer (some ⟨b28,0,none⟩)]) [.func (.func 31) #[] #[.pointer (some ⟨b1,0,none⟩),.pointer (some ⟨b28,0,none⟩)]] [.string t34,.func (.func 28) #[] #[.pointer (some ⟨b28,0,none⟩),.pointer (some ⟨b1,0,none⟩)],.func (.func 31) #[] #[.pointer (some ⟨b1,0,none⟩),.pointer (some ⟨b28,0,none⟩)],.nilFunc] hS46 ?_
  intro w47 hS48
  refine sR 5 [.inRegion (opsOf (cd9 [1,1,1,1,1,0])) [2],.code (cd9 [1,1,1,1,1,1])] ?_
  refine rS 30 (.tmp 20) (.tmp 19) 3 (.func (.func 32) #[] #[.pointer (some ⟨b28,0,none⟩),.pointer (some ⟨b1,0,none⟩)]) [.func (.func 32) #[] #[.pointer (some ⟨b28,0,none⟩),.pointer (some ⟨b1,0,none⟩)]] [.string t34,.func (.func 28) #[] #[.pointer (some ⟨b28,0,none⟩),.pointer (some ⟨b1,0,none⟩)],.func (.func 31) #[] #[.pointer (some ⟨b1,0,none⟩),.pointer (some ⟨b28,0,none⟩)],.func (.func 32) #[] #[.pointer (some ⟨b28,0,none⟩),.pointer (some ⟨b1,0,none⟩)]] hS48 ?_
  intro w49 hS50
  refine sR 2 [.code (cd9 [1,1,1,1,1,1,0]),.code (cd9 [1,1,1,1,1,1,1])] ?_
  have hS51:=hS50.pick6
  have hS52:=hS51.pick2
  have hS53:=hS52.pick2
  generalize hg55 : (xblk b24 49 ([.map (some b9),.map (some b14),.map (some b19),.bool false])::xmap b19 (([] : List (ByteArray × Int)).map (kv Value.string (Value.int .i64)))::xmap b14 (([] : List (ByteArray × Int)).map (kv Value.string (Value.int .i64)))::xmap b9 (([] : List (ByteArray × Int)).map (kv Value.string (Value.int .i64)))::xblk b1 26 ([.slice y0 a0.Next.length y1,.slice y2 a0.End.length y3,.slice y4 a0.Value.length y5,.int .i64 a0.Start])::fs) = gs54 at hS53
  have hS56:=hS53.pick2
  refine r_drawnF (X:=Unit) (c:=(cd9 [1,1,1,1,1,1,0])) (id:=6) (C0:=fun w' => St w0 Z (xblk b5 32 ([.string (⟨#[]⟩ : ByteArray),.nilFunc,.nilFunc,.nilFunc])::xblk b39 32 ([.string t34,.func (.func 28) #[] #[.pointer (some ⟨b28,0,none⟩),.pointer (some ⟨b1,0,none⟩)],.func (.func 31) #[] #[.pointer (some ⟨b1,0,none⟩),.pointer (some ⟨b28,0,none⟩)],.func (.func 32) #[] #[.pointer (some ⟨b28,0,none⟩),.pointer (some ⟨b1,0,none⟩)]])::xblk b28 33 ([.pointer (some ⟨b24,0,none⟩)])::gs54) w') (C1:=fun _ w' => St w0 Z (xblk b5 32 ([.string t34,.func (.func 28) #[] #[.pointer (some ⟨b28,0,none⟩),.pointer (some ⟨b1,0,none⟩)],.func (.func 31) #[] #[.pointer (some ⟨b1,0,none⟩),.pointer (some ⟨b28,0,none⟩)],.func (.func 32) #[] #[.pointer (some ⟨b28,0,none⟩),.pointer (some ⟨b1,0,none⟩)]])::xblk b39 32 ([.string t34,.func (.func 28) #[] #[.pointer (some ⟨b28,0,none⟩),.pointer (some ⟨b1,0,none⟩)],.func (.func 31) #[] #[.pointer (some ⟨b1,0,none⟩),.pointer (some ⟨b28,0,none⟩)],.func (.func 32) #[] #[.pointer (some ⟨b28,0,none⟩),.pointer (some ⟨b1,0,none⟩)]])::xblk b28 33 ([.pointer (some ⟨b24,0,none⟩)])::gs54) w') (vs:=[.agg #[.string t34,.func (.func 28) #[] #[.pointer (some ⟨b28,0,none⟩),.pointer (some ⟨b1,0,none⟩)],.func (.func 31) #[] #[.pointer (some ⟨b1,0,none⟩),.pointer (some ⟨b28,0,none⟩)],.func (.func 32) #[] #[.pointer (some ⟨b28,0,none⟩),.pointer (some ⟨b1,0,none⟩)]],.pointer (some ⟨b24,0,none⟩),undef,undef]) (vx:=fun _ => [.agg #[.string t34,.func (.func 28) #[] #[.pointer (some ⟨b28,0,none⟩),.pointer (some ⟨b1,0,none⟩)],.func (.func 31) #[] #[.pointer (some ⟨b1,0,none⟩),.pointer (some ⟨b28,0,none⟩)],.func (.func 32) #[] #[.pointer (some ⟨b28,0,none⟩),.pointer (some ⟨b1,0,none⟩)]],.pointer (some ⟨b24,0,none⟩),undef,.pointer (some ⟨b24,0,none⟩)]) 2 4 [2,3] [] (by kernel_rfl) (by kernel_rfl) (by kernel_rfl) (by decide) (by kernel_rfl) (by kernel_rfl) (by kernel_rfl) rfl ?_ (fun _ => ⟨rfl,rfl⟩) hS56.drew ?_ ?_ ?_ ?_ ?_
  ·intro _u i hi hd
   match i,hi,hd with
   | 0,_,_ => exact rfl
   | 1,_,_ => exact rfl
   | 2,_,hd => exact absurd hd (by decide)
   | 3,_,hd => exact absurd hd (by decide)
   | i + 4,hi,_ => exact absurd hi (by omega)
  ·intro i hi hd w hC
   match i,hi,hd with
   | 0,_,_ => exact does_run (x_load (t:=32) (x:=(.tmp 5)) (p:=⟨b39,0,none⟩) (v:=.agg #[.string t34,.func (.func 28) #[] #[.pointer (some ⟨b28,0,none⟩),.pointer (some ⟨b1,0,none⟩)],.func (.func 31) #[] #[.pointer (some ⟨b1,0,none⟩),.pointer (some ⟨b28,0,none⟩)],.func (.func 32) #[] #[.pointer (some ⟨b28,0,none⟩),.pointer (some ⟨b1,0,none⟩)]]) (by kernel_rfl) (loads_agg (hC.blk 1 rfl) (by kernel_rfl) (by kernel_rfl)) (by kernel_rfl)) rfl hC
   | 1,_,_ => exact does_run (x_load (t:=33) (x:=(.tmp 4)) (p:=⟨b28,0,none⟩) (v:=.pointer (some ⟨b24,0,none⟩)) (by kernel_rfl) (loads_at 0 (hC.blk 2 rfl) (by kernel_rfl) (by kernel_rfl)) (by kernel_rfl)) rfl hC
   | 2,_,hd => exact absurd hd (by decide)
   | 3,_,hd => exact absurd hd (by decide)
   | i + 4,hi,_ => exact absurd hi (by omega)
  ·intro i hi hd _u w hC
   match i,hi,hd with
   | 0,_,_ => exact does_run (x_load (t:=32) (x:=(.tmp 5)) (p:=⟨b39,0,none⟩) (v:=.agg #[.string t34,.func (.func 28) #[] #[.pointer (some ⟨b28,0,none⟩),.pointer (some ⟨b1,0,none⟩)],.func (.func 31) #[] #[.pointer (some ⟨b1,0,none⟩),.pointer (some ⟨b28,0,none⟩)],.func (.func 32) #[] #[.pointer (some ⟨b28,0,none⟩),.pointer (some ⟨b1,0,none⟩)]]) (by kernel_rfl) (loads_agg (hC.blk 1 rfl) (by kernel_rfl) (by kernel_rfl)) (by kernel_rfl)) rfl hC
   | 1,_,_ => exact does_run (x_load (t:=33) (x:=(.tmp 4)) (p:=⟨b28,0,none⟩) (v:=.pointer (some ⟨b24,0,none⟩)) (by kernel_rfl) (loads_at 0 (hC.blk 2 rfl) (by kernel_rfl) (by kernel_rfl)) (by kernel_rfl)) rfl hC
   | 2,_,hd => exact absurd hd (by decide)
   | 3,_,hd => exact absurd hd (by decide)
   | i + 4,hi,_ => exact absurd hi (by omega)
  ·intro w hC
   exact does_store (ux:=()) (t:=32) (x:=(.tmp 2)) (y:=(.tmp 21)) (b:=b5) (o:=0) (e:=32) (cs:=[.string (⟨#[]⟩ : ByteArray),.nilFunc,.nilFunc,.nilFunc]) (v:=.agg #[.string t34,.func (.func 28) #[] #[.pointer (some ⟨b28,0,none⟩),.pointer (some ⟨b1,0,none⟩)],.func (.func 31) #[] #[.pointer (some ⟨b1,0,none⟩),.pointer (some ⟨b28,0,none⟩)],.func (.func 32) #[] #[.pointer (some ⟨b28,0,none⟩),.pointer (some ⟨b1,0,none⟩)]]) (vs:=[.string t34,.func (.func 28) #[] #[.pointer (some ⟨b28,0,none⟩),.pointer (some ⟨b1,0,none⟩)],.func (.func 31) #[] #[.pointer (some ⟨b1,0,none⟩),.pointer (some ⟨b28,0,none⟩)],.func (.func 32) #[] #[.pointer (some ⟨b28,0,none⟩),.pointer (some ⟨b1,0,none⟩)]]) (cs':=[.string t34,.func (.func 28) #[] #[.pointer (some ⟨b28,0,none⟩),.pointer (some ⟨b1,0,none⟩)],.func (.func 31) #[] #[.pointer (some ⟨b1,0,none⟩),.pointer (some ⟨b28,0,none⟩)],.func (.func 32) #[] #[.pointer (some ⟨b28,0,none⟩),.pointer (some ⟨b1,0,none⟩)]]) hC (by kernel_rfl) (by kernel_rfl) (by kernel_rfl) (by kernel_rfl) (by kernel_rfl) (by kernel_rfl) (by kernel_rfl) (Nat.le_of_ble_eq_true (by kernel_rfl)) (by kernel_rfl) (fun _ h => h)
  ·intro i hi hd hne _u w hC
   match i,hi,hd,hne with
   | 0,_,hd,_ => exact absurd hd (by decide)
   | 1,_,hd,_ => exact absurd hd (by decide)
   | 2,_,_,hne => exact absurd rfl hne
   | 3,_,_,_ => exact does_pure (v:=.pointer (some ⟨b24,0,none⟩)) (by kernel_rfl) rfl hC
   | i + 4,hi,_,_ => exact absurd hi (by omega)
  intro _u w57 hS58
  subst hg55
  have hS59:=hS58.drop
  have hS60:=hS59.drop
  have hS61:=hS60.pick5
  have hS62:=hS61.pick3
  have hS63:=hS62.pick4
  have hS64:=hS63.pick5
  have hS65:=hS64.pick5
  have hS66:=hS65.pick5
  refine rRc (.tuple #[.agg #[.string t34,.func (.func 28) #[] #[.pointer (some ⟨b28,0,none⟩),.pointer (some ⟨b1,0,none⟩)],.func (.func 31) #[] #[.pointer (some ⟨b1,0,none⟩),.pointer (some ⟨b28,0,none⟩)],.func (.func 32) #[] #[.pointer (some ⟨b28,0,none⟩),.pointer (some ⟨b1,0,none⟩)]],.pointer (some ⟨b24,0,none⟩)]) (.ca 2 32 (hS58.blk 0 rfl) (.tm 3 .nil)) Try.func9 ?_
  cases Option.some.inj hp36
  exact hR _ _ ⟨b28,b24,b9,b14,b19,b1,y0,y1,y2,y3,y4,y5,rfl,hS66,y6,y7,y8⟩

noncomputable def cd29 (p : List Nat) : Code := sub (bodyOf Try.f29) p
abbrev p29_2:=cd29 [1,0,0]
abbrev p29_10:=cd29 [1,1,1,1]
abbrev td11:List Item:=[.code (cd29 [1,0,1]),.code (cd29 [1,1])]
def weirlaw14_Net__number.f (a0 : weirlaw14_Net) (a1 : ByteArray) : Option Int :=
  (if ((a1.size : Int) != 3) = true then some ((-1)) else (if 0 ≤ (0 : Int) ∧ (0 : Int) < (a1.size : Int) then (if ((byt a1 (0 : Int)) != 115) = true then some ((-1)) else (if 0 ≤ (1 : Int) ∧ (1 : Int) < (a1.size : Int) then (if 0 ≤ (2 : Int) ∧ (2 : Int) < (a1.size : Int) then (if (decide ((IntKind.i64.wrap ((shlI .i64 (IntKind.i64.wrap (byt a1 (1 : Int))) 8) + (IntKind.i64.wrap (byt a1 (2 : Int))))) ≥ (a0.Next.length : Int))) = true then some ((-1)) else some ((IntKind.i64.wrap ((shlI .i64 (IntKind.i64.wrap (byt a1 (1 : Int))) 8) + (IntKind.i64.wrap (byt a1 (2 : Int))))))) else none) else none)) else none))
theorem weirlaw14_Net__number.ok {a0 : weirlaw14_Net} {a1 : ByteArray} {y0 : Option Addr} {y1 : Nat} {y2 : Option Addr} {y3 : Nat} {y4 : Option Addr} {y5 : Nat} {q0 : Int} (hp0 : weirlaw14_Net__number.f a0 a1 = some q0) (hS0 : St w0 Z (fs) w) (y6 : SlZ (repL (flat (encI .i64)) 1) 1 Z y0 y1 a0.Next) (y7 : SlZ (flat encB) 1 Z y2 y3 a0.End) (y8 : SlZ (flat (encI .i64)) 1 Z y4 y5 a0.Value) :
    Calls Try.prog 29 #[.agg #[.slice y0 a0.Next.length y1,.slice y2 a0.End.length y3,.slice y4 a0.Value.length y5,.int .i64 a0.Start],.string a1] w (fun e w' => e = .returned (.int .i64 q0) ∧ St w0 Z (fs) w'):=by
  refine calls_abs ?_; intro R hR
  unfold weirlaw14_Net__number.f at hp0
  refine calls_of_runs (fn:=Try.f29) (c:=cd29 []) Try.func29 (by kernel_rfl) (al:=[.agg #[.slice y0 a0.Next.length y1,.slice y2 a0.End.length y3,.slice y4 a0.Value.length y5,.int .i64 a0.Start],.string a1]) rfl (n:=26) rfl ?_
  refine sR 2 [.inRegion (opsOf (cd29 [0])) [0,1],.code (cd29 [1])] ?_
  refine r_box (c:=(cd29 [0])) (i:=0) (d:=(some 2)) (ty:=0) (x:=(.tmp 0)) (v:=.agg #[.slice y0 a0.Next.length y1,.slice y2 a0.End.length y3,.slice y4 a0.Value.length y5,.int .i64 a0.Start]) (t:=26) (cs:=[.slice y0 a0.Next.length y1,.slice y2 a0.End.length y3,.slice y4 a0.Value.length y5,.int .i64 a0.Start]) hS0 (by kernel_rfl) (by kernel_rfl) (by kernel_rfl) (by kernel_rfl) ?_
  intro b1 w2 hS3
  refine sI 8 (iR p29_2 3 5::td11) 8 hp0 (fun hp7 => ?_) fun hp10 => ?_
  ·refine sR 11 [.code (cd29 [1,0,1,0,1]),.code (cd29 [1,1])] ?_
   have hS8:=hS3.drop
   refine rR (.int .i64 (-1)) Try.func29 ?_
   cases Option.some.inj hp7
   exact hR _ _ ⟨rfl,hS8⟩
  refine sR 2 (.inRegion (opsOf p29_2) [5,6,7]::td11) ?_
  obtain ⟨g11,hp12⟩:=ite_some hp10
  refine rV (.index 9 (.tmp 10) (.const (.int .i64 0))) (.int .u8 (byt a1 (0 : Int))) (fun o ho _ => x_indexStr (kk:=.i64) (by kernel_rfl) (by kernel_rfl) (by kernel_rfl) g11.1 g11.2 ho) ?_
  refine sI 1 (.inRegion (opsOf p29_2) [7]::td11) 12 hp12 (fun hp15 => ?_) fun hp18 => ?_
  ·refine sR 7 [.code (cd29 [1,0,1,0,1]),.code (cd29 [1,1])] ?_
   have hS16:=hS3.drop
   refine rR (.int .i64 (-1)) Try.func29 ?_
   cases Option.some.inj hp15
   exact hR _ _ ⟨rfl,hS16⟩
  refine sR 5 [.code (cd29 [1,1,0]),.code (cd29 [1,1,1])] ?_
  refine r_quiet hS3 (c:=(cd29 [1,1,0])) (id:=3) (by kernel_rfl) (by kernel_rfl) (by kernel_rfl) (is:=[0,1,2,3,4,5,6,7,8]) (by kernel_rfl) ?_
  refine qR 1 (rg 1 8) ?_
  obtain ⟨g19,hp20⟩:=ite_some hp18
  refine qV (.index 9 (.tmp 14) (.const (.int .i64 1))) (.int .u8 (byt a1 (1 : Int))) (fun w hC o ho _ => x_indexStr (kk:=.i64) (by kernel_rfl) (by kernel_rfl) (by kernel_rfl) g19.1 g19.2 ho) ?_
  refine qR 3 (rg 5 4) ?_
  obtain ⟨g21,hp22⟩:=ite_some hp20
  refine qV (.index 9 (.tmp 18) (.const (.int .i64 2))) (.int .u8 (byt a1 (2 : Int))) (fun w hC o ho _ => x_indexStr (kk:=.i64) (by kernel_rfl) (by kernel_rfl) (by kernel_rfl) g21.1 g21.2 ho) ?_
  refine qR 3 [] ?_
  refine Qs.nil ?_
  intro w23 hS24
  refine sR 5 [.inRegion (opsOf (cd29 [1,1,1,0,0])) [2,3,4],.code (cd29 [1,1,1,0,1]),.code p29_10] ?_
  refine rL1 22 (.tmp 23) 0 (hS24.blk 0 rfl) ?_
  refine sI 2 [.inRegion (opsOf (cd29 [1,1,1,0,0])) [],.code (cd29 [1,1,1,0,1]),.code p29_10] 26 hp22 (fun hp27 => ?_) fun hp30 => ?_
  ·refine sR 6 [.code (cd29 [1,1,1,0,1,0,1]),.code p29_10] ?_
   have hS28:=hS24.drop
   refine rR (.int .i64 (-1)) Try.func29 ?_
   cases Option.some.inj hp27
   exact hR _ _ ⟨rfl,hS28⟩
  refine sR 8 [.code (cd29 [1,1,1,1,1])] ?_
  have hS31:=hS24.drop
  refine rR (.int .i64 (IntKind.i64.wrap ((shlI .i64 (IntKind.i64.wrap (byt a1 (1 : Int))) 8) + (IntKind.i64.wrap (byt a1 (2 : Int)))))) Try.func29 ?_
  cases Option.some.inj hp30
  exact hR _ _ ⟨rfl,hS31⟩

noncomputable def cd32 (p : List Nat) : Code := sub (bodyOf Try.f32) p
abbrev p32_2:=cd32 [1,0]
abbrev p32_3:=cd32 [1,1]
abbrev p32_6:=cd32 [1,1,1,0,0]
abbrev p32_9:=cd32 [1,1,1,1,0,0]
abbrev p32_17:=cd32 [1,1,1,1,1,1,1,0,0]
abbrev p32_18:=cd32 [1,1,1,1,1,1,1,0,1]
abbrev p32_20:=cd32 [1,1,1,1,1,1,1,1,0]
abbrev p32_21:=cd32 [1,1,1,1,1,1,1,1,1]
abbrev p32_22:=cd32 [1,1,1,1,1,1,1,0,1,0]
abbrev p32_23:=cd32 [1,1,1,1,1,1,0,1,0]
abbrev td12:List Item:=[.code (cd32 [1,1,1,1])]
abbrev td13:List Item:=.code (cd32 [1,1,1,0,1])::td12
abbrev td14:List Item:=[.code (cd32 [1,1,1,1,1])]
abbrev td15:List Item:=.code (cd32 [1,1,1,1,0,1])::td14
abbrev td16:List Item:=[.code (cd32 [1,1,1,1,1,1,1])]
abbrev td17:List Item:=[.code (cd32 [1,1,1,1,1,1,1,1])]
def weirlaw14_Net__machine_3.f (a0 : ByteArray) (a1vv_0m a1vv_1m a1vv_2m : List (ByteArray × Int)) (a1vv_3 : Bool) (a2v : weirlaw14_Net) : Option (api_Final × Bool × Bool × (List (ByteArray × Int))) :=
  (weirlaw14_Net__number.f a2v a0 >>= (fun t8 => (((if (decide (((mget (mput a1vv_1m a0 (IntKind.i64.wrap (((mget a1vv_1m a0).getD (0 : Int)) + 1))) a0).getD (0 : Int)) > 1)) = true then some (true) else (if (decide (t8 < 0)) = true then some (true) else some (false))) : Option Bool) >>= (fun t16 => (((if t16 = true then some (true) else some (a1vv_3)) : Option Bool) >>= (fun t25 => (((if (decide (t8 < 0)) = true then some (true) else (if (decide (t8 ≥ (a2v.End.length : Int))) = true then some (true) else (if 0 ≤ t8 ∧ t8 < (a2v.End.length : Int) then (if (gt a2v.End t8) = true then some (false) else some (true)) else none))) : Option Bool) >>= (fun t34 => (if t34 = true then some (((⟨0,(Vector.replicate 48 0)⟩ : api_Final),false,t25,(mput a1vv_1m a0 (IntKind.i64.wrap (((mget a1vv_1m a0).getD (0 : Int)) + 1))))) else (((if (decide (t8 < (a2v.Value.length : Int))) = true then (if 0 ≤ t8 ∧ t8 < (a2v.Value.length : Int) then (if 0 ≤ (0 : Int) ∧ (0 : Int) < 48 then some ((⟨1,(vset (Vector.replicate 48 0) (0 : Int) (gt a2v.Value t8))⟩ : api_Final)) else none) else none) else some ((⟨1,(Vector.replicate 48 0)⟩ : api_Final))) : Option api_Final) >>= (fun t50 => (if 0 ≤ (0 : Int) ∧ (0 : Int) < 48 then (((if ((vget t50.V (0 : Int)) == 99) = true then some ((⟨(-1),t50.V⟩ : api_Final)) else some (t50)) : Option api_Final) >>= (fun t61 => some ((t61,true,t25,(mput a1vv_1m a0 (IntKind.i64.wrap (((mget a1vv_1m a0).getD (0 : Int)) + 1))))))) else none))))))))))))
theorem weirlaw14_Net__machine_3.ok {a0 : ByteArray} {a1vv_0m a1vv_1m a1vv_2m : List (ByteArray × Int)} {a1vv_3 : Bool} {a2v : weirlaw14_Net} {ba1 ba1v : Nat} {ba1vv_0 ba1vv_1 : Nat} {ba1vv_2 ba2 : Nat} {y9 : Option Addr} {y10 : Nat} {y11 : Option Addr} {y12 : Nat} {y13 : Option Addr} {y14 : Nat} {q0 : api_Final} {q1 q2 : Bool} {q3 : List (ByteArray × Int)} (hp0 : weirlaw14_Net__machine_3.f a0 a1vv_0m a1vv_1m a1vv_2m a1vv_3 a2v = some (q0,q1,q2,q3)) (hS0 : St w0 Z (xblk ba1 33 ([.pointer (some ⟨ba1v,0,none⟩)])::xblk ba1v 49 ([.map (some ba1vv_0),.map (some ba1vv_1),.map (some ba1vv_2),.bool a1vv_3])::xmap ba1vv_0 (a1vv_0m.map (kv Value.string (Value.int .i64)))::xmap ba1vv_1 (a1vv_1m.map (kv Value.string (Value.int .i64)))::xmap ba1vv_2 (a1vv_2m.map (kv Value.string (Value.int .i64)))::xblk ba2 26 ([.slice y9 a2v.Next.length y10,.slice y11 a2v.End.length y12,.slice y13 a2v.Value.length y14,.int .i64 a2v.Start])::fs) w) (y15 : SlZ (repL (flat (encI .i64)) 1) 1 Z y9 y10 a2v.Next) (y16 : SlZ (flat encB) 1 Z y11 y12 a2v.End) (y17 : SlZ (flat (encI .i64)) 1 Z y13 y14 a2v.Value) :
    Calls Try.prog 32 #[.string a0,.pointer (some ⟨ba1,0,none⟩),.pointer (some ⟨ba2,0,none⟩)] w (fun e w' => e = .returned (.tuple #[.agg (enc_api_Final q0).toArray,.bool q1]) ∧ St w0 Z (xblk ba1 33 ([.pointer (some ⟨ba1v,0,none⟩)])::xblk ba1v 49 ([.map (some ba1vv_0),.map (some ba1vv_1),.map (some ba1vv_2),.bool q2])::xmap ba1vv_0 (a1vv_0m.map (kv Value.string (Value.int .i64)))::xmap ba1vv_1 (q3.map (kv Value.string (Value.int .i64)))::xmap ba1vv_2 (a1vv_2m.map (kv Value.string (Value.int .i64)))::xblk ba2 26 ([.slice y9 a2v.Next.length y10,.slice y11 a2v.End.length y12,.slice y13 a2v.Value.length y14,.int .i64 a2v.Start])::fs) w'):=by
  refine calls_abs ?_; intro R hR
  unfold weirlaw14_Net__machine_3.f at hp0
  refine calls_of_runs (fn:=Try.f32) (c:=cd32 []) Try.func32 (by kernel_rfl) (al:=[.string a0,.pointer (some ⟨ba1,0,none⟩),.pointer (some ⟨ba2,0,none⟩)]) rfl (n:=66) rfl ?_
  refine sR 2 [.inRegion (opsOf (cd32 [0])) [0,1],.code (cd32 [1])] ?_
  refine rA 84 (.agg (enc_api_Final (⟨0,(Vector.replicate 48 0)⟩ : api_Final)).toArray) (enc_api_Final (⟨0,(Vector.replicate 48 0)⟩ : api_Final)) hS0 ?_
  intro b1 w2 hS3
  refine sR 4 [iR p32_2 0 8,.code p32_3] ?_
  refine rL1 33 (.tmp 1) 0 (hS3.blk 1 rfl) ?_
  refine sR 2 [iR p32_2 3 5,.code p32_3] ?_
  refine rL1 41 (.tmp 10) 1 (hS3.blk 2 rfl) ?_
  refine sR 1 [.inRegion (opsOf p32_2) [5,6,7],.code p32_3] ?_
  refine rV (.lookup 41 (.tmp 11) (.tmp 12) false) (.int .i64 ((mget a1vv_1m a0).getD (0 : Int))) (fun o ho _ => x_lookup1 (eK:=Value.string) (eV:=(Value.int .i64)) (dk:=.string) (b:=ba1vv_1) (t:=41) (kt:=9) (et:=3) (m:=a1vv_1m) (kk:=a0) (z:=(0 : Int)) (hS3.at 4 rfl) key_str (by kernel_rfl) (by kernel_rfl) (by kernel_rfl) (by kernel_rfl) (by kernel_rfl) ho) ?_
  refine sR 1 [.inRegion (opsOf p32_2) [7],.code p32_3] ?_
  have hS5:=hS3.pick4
  refine r_mapUpdate (c:=p32_2) (i:=7) (d:=none) (ty:=0) (eK:=Value.string) (eV:=(Value.int .i64)) (dk:=.string) (b:=ba1vv_1) (t:=41) (kt:=9) (et:=3) (x:=(.tmp 11)) (y:=(.tmp 12)) (z:=(.tmp 14)) (m:=a1vv_1m) (kk:=a0) (v:=(IntKind.i64.wrap (((mget a1vv_1m a0).getD (0 : Int)) + 1))) hS5 (by kernel_rfl) (by kernel_rfl) key_str (by kernel_rfl) (by kernel_rfl) (by kernel_rfl) (by kernel_rfl) (by kernel_rfl) ?_
  intro w6 hS7
  refine sR 3 [iR (cd32 [1,1,0]) 0 4,.code (cd32 [1,1,1])] ?_
  refine rLa 26 (.tmp 2) (hS7.blk 6 rfl) ?_
  refine sR 1 [.inRegion (opsOf (cd32 [1,1,0])) [2,3],.code (cd32 [1,1,1])] ?_
  obtain ⟨t8,hr9,hp10⟩:=bind_some' hp0
  refine rC (weirlaw14_Net__number.ok hr9 hS7 y15 y16 y17) ?_
  rintro _ w11 ⟨rfl,hS12⟩
  refine ⟨_,rfl,?_⟩
  refine sR 4 (.code p32_6::td13) ?_
  obtain ⟨v13,hv14,hp15⟩:=bind_some' hp10
  have J19 : ∀ (t16 : Bool) (he21 : t16 = v13) (l20 : List Value) (w17 : World) (hS18 : St w0 Z (xblk ba1 33 ([.pointer (some ⟨ba1v,0,none⟩)])::xblk ba1v 49 ([.map (some ba1vv_0),.map (some ba1vv_1),.map (some ba1vv_2),.bool a1vv_3])::xmap ba1vv_0 (a1vv_0m.map (kv Value.string (Value.int .i64)))::xmap ba1vv_1 ((mput a1vv_1m a0 (IntKind.i64.wrap (((mget a1vv_1m a0).getD (0 : Int)) + 1))).map (kv Value.string (Value.int .i64)))::xmap ba1vv_2 (a1vv_2m.map (kv Value.string (Value.int .i64)))::xblk ba2 26 ([.slice y9 a2v.Next.length y10,.slice y11 a2v.End.length y12,.slice y13 a2v.Value.length y14,.int .i64 a2v.Start])::xblk b1 84 (enc_api_Final (⟨0,(Vector.replicate 48 0)⟩ : api_Final))::fs) w17),Runs Try.prog (fx 32) td13 (fill (mk 69 [(1,.pointer (some ⟨ba1,0,none⟩)),(2,.pointer (some ⟨ba2,0,none⟩)),(4,.pointer (some ⟨b1,0,none⟩)),(6,.int .i64 t8),(28,.bool t16)]) l20) w17 R:=by
   intro t16 he21 l20 w17 hS18
   subst he21
   try dsimp only at hp15
   obtain ⟨v22,hv23,hp24⟩:=bind_some' hp15
   have J28 : ∀ (t25 : Bool) (he30 : t25 = v22) (l29 : List Value) (w26 : World) (hS27 : St w0 Z (xblk ba2 26 ([.slice y9 a2v.Next.length y10,.slice y11 a2v.End.length y12,.slice y13 a2v.Value.length y14,.int .i64 a2v.Start])::xblk b1 84 (enc_api_Final (⟨0,(Vector.replicate 48 0)⟩ : api_Final))::xblk ba1 33 ([.pointer (some ⟨ba1v,0,none⟩)])::xblk ba1v 49 ([.map (some ba1vv_0),.map (some ba1vv_1),.map (some ba1vv_2),.bool t25])::xmap ba1vv_0 (a1vv_0m.map (kv Value.string (Value.int .i64)))::xmap ba1vv_1 ((mput a1vv_1m a0 (IntKind.i64.wrap (((mget a1vv_1m a0).getD (0 : Int)) + 1))).map (kv Value.string (Value.int .i64)))::xmap ba1vv_2 (a1vv_2m.map (kv Value.string (Value.int .i64)))::fs) w26),Runs Try.prog (fx 32) td12 (fill (mk 69 [(2,.pointer (some ⟨ba2,0,none⟩)),(4,.pointer (some ⟨b1,0,none⟩)),(6,.int .i64 t8)]) l29) w26 R:=by
    intro t25 he30 l29 w26 hS27
    subst he30
    try dsimp only at hp24
    refine sR 2 (.code p32_9::td15) ?_
    obtain ⟨v31,hv32,hp33⟩:=bind_some' hp24
    have J37 : ∀ (t34 : Bool) (he39 : t34 = v31) (l38 : List Value) (w35 : World) (hS36 : St w0 Z (xblk ba2 26 ([.slice y9 a2v.Next.length y10,.slice y11 a2v.End.length y12,.slice y13 a2v.Value.length y14,.int .i64 a2v.Start])::xblk b1 84 (enc_api_Final (⟨0,(Vector.replicate 48 0)⟩ : api_Final))::xblk ba1 33 ([.pointer (some ⟨ba1v,0,none⟩)])::xblk ba1v 49 ([.map (some ba1vv_0),.map (some ba1vv_1),.map (some ba1vv_2),.bool t25])::xmap ba1vv_0 (a1vv_0m.map (kv Value.string (Value.int .i64)))::xmap ba1vv_1 ((mput a1vv_1m a0 (IntKind.i64.wrap (((mget a1vv_1m a0).getD (0 : Int)) + 1))).map (kv Value.string (Value.int .i64)))::xmap ba1vv_2 (a1vv_2m.map (kv Value.string (Value.int .i64)))::fs) w35),Runs Try.prog (fx 32) td15 (fill (mk 69 [(2,.pointer (some ⟨ba2,0,none⟩)),(4,.pointer (some ⟨b1,0,none⟩)),(6,.int .i64 t8),(48,.bool t34)]) l38) w35 R:=by
     intro t34 he39 l38 w35 hS36
     subst he39
     try dsimp only at hp33
     cases t34
     ·have hp40:=ite_f hp33 rfl
      refine sR 4 [.inRegion (opsOf (cd32 [1,1,1,1,1,0])) [0,1,2],.code (cd32 [1,1,1,1,1,1])] ?_
      refine rV (.build 84 #[(0,(.const (.int .i64 1)))]) (.agg (enc_api_Final (⟨1,(Vector.replicate 48 0)⟩ : api_Final)).toArray) (fun o ho _ => x_build (t:=84) (c:=(enc_api_Final (⟨1,(Vector.replicate 48 0)⟩ : api_Final) : List Value).toArray) (ps:=#[(0,(.const (.int .i64 1)))]) Try.underlying84 hz_84 hp_84 (by kernel_rfl) ho) ?_
      refine rA 84 (.agg (enc_api_Final (⟨0,(Vector.replicate 48 0)⟩ : api_Final)).toArray) (enc_api_Final (⟨0,(Vector.replicate 48 0)⟩ : api_Final)) hS36 ?_
      intro b41 w42 hS43
      refine r_store (c:=(cd32 [1,1,1,1,1,0])) (i:=2) (d:=none) (ty:=0) (t:=84) (x:=(.tmp 7)) (y:=(.tmp 50)) (b:=b41) (o:=0) (e:=84) (cs:=enc_api_Final (⟨0,(Vector.replicate 48 0)⟩ : api_Final)) (v:=.agg (enc_api_Final (⟨1,(Vector.replicate 48 0)⟩ : api_Final)).toArray) (vs:=enc_api_Final (⟨1,(Vector.replicate 48 0)⟩ : api_Final)) (cs':=enc_api_Final (⟨1,(Vector.replicate 48 0)⟩ : api_Final)) hS43 (by kernel_rfl) (by kernel_rfl) (by kernel_rfl) (by kernel_rfl) (by kernel_rfl) (lenK (len_api_Final _) (by kernel_rfl)) (one_api_Final _) (by simp only [len_api_Final,List.length_cons,List.length_nil,List.length_append]; omega) (over_all ((len_api_Final _).trans (len_api_Final _).symm)) ?_
      intro w45 hS46
      refine sR 6 (.inRegion (opsOf (cd32 [1,1,1,1,1,1,0,0])) [2,3,4]::.code (cd32 [1,1,1,1,1,1,0,1])::td16) ?_
      refine rL1 24 (.tmp 52) 2 (hS46.blk 1 rfl) ?_
      obtain ⟨v47,hv48,hp49⟩:=bind_some' hp40
      have J53 : ∀ (t50 : api_Final) (he55 : t50 = v47) (l54 : List Value) (w51 : World) (hS52 : St w0 Z (xblk b1 84 (enc_api_Final (⟨0,(Vector.replicate 48 0)⟩ : api_Final))::xblk b41 84 (enc_api_Final t50)::xblk ba1 33 ([.pointer (some ⟨ba1v,0,none⟩)])::xblk ba1v 49 ([.map (some ba1vv_0),.map (some ba1vv_1),.map (some ba1vv_2),.bool t25])::xmap ba1vv_0 (a1vv_0m.map (kv Value.string (Value.int .i64)))::xmap ba1vv_1 ((mput a1vv_1m a0 (IntKind.i64.wrap (((mget a1vv_1m a0).getD (0 : Int)) + 1))).map (kv Value.string (Value.int .i64)))::xmap ba1vv_2 (a1vv_2m.map (kv Value.string (Value.int .i64)))::xblk ba2 26 ([.slice y9 a2v.Next.length y10,.slice y11 a2v.End.length y12,.slice y13 a2v.Value.length y14,.int .i64 a2v.Start])::fs) w51),Runs Try.prog (fx 32) td16 (fill (mk 69 [(4,.pointer (some ⟨b1,0,none⟩)),(7,.pointer (some ⟨b41,0,none⟩))]) l54) w51 R:=by
       intro t50 he55 l54 w51 hS52
       subst he55
       try dsimp only at hp49
       refine sR 4 (.inRegion (opsOf p32_17) [1,2,3]::.code p32_18::td17) ?_
       obtain ⟨g56,hp57⟩:=ite_some hp49
       refine r_indexArr (c:=p32_17) (i:=1) (d:=(some 64)) (ty:=0) (t:=82) (e:=2) (sz:=1) (kk:=.i64) (x:=(.tmp 63)) (y:=(.const (.int .i64 0))) (b:=b41) (o':=1) (n:=48) (j:=(0 : Int)) (by kernel_rfl) (by kernel_rfl) (by kernel_rfl) (by kernel_rfl) (by kernel_rfl) (by kernel_rfl) g56.1 g56.2 ?_
       refine rL1 2 (.tmp 64) 0 (cells_vget (sub_api_Final_V (hS52.blk 1 rfl)) (len_encI .i64) g56.1 g56.2) ?_
       obtain ⟨v58,hv59,hp60⟩:=bind_some' hp57
       have J64 : ∀ (t61 : api_Final) (he66 : t61 = v58) (l65 : List Value) (w62 : World) (hS63 : St w0 Z (xblk b1 84 (enc_api_Final (⟨0,(Vector.replicate 48 0)⟩ : api_Final))::xblk b41 84 (enc_api_Final t61)::xblk ba1 33 ([.pointer (some ⟨ba1v,0,none⟩)])::xblk ba1v 49 ([.map (some ba1vv_0),.map (some ba1vv_1),.map (some ba1vv_2),.bool t25])::xmap ba1vv_0 (a1vv_0m.map (kv Value.string (Value.int .i64)))::xmap ba1vv_1 ((mput a1vv_1m a0 (IntKind.i64.wrap (((mget a1vv_1m a0).getD (0 : Int)) + 1))).map (kv Value.string (Value.int .i64)))::xmap ba1vv_2 (a1vv_2m.map (kv Value.string (Value.int .i64)))::xblk ba2 26 ([.slice y9 a2v.Next.length y10,.slice y11 a2v.End.length y12,.slice y13 a2v.Value.length y14,.int .i64 a2v.Start])::fs) w62),Runs Try.prog (fx 32) td17 (fill (mk 69 [(4,.pointer (some ⟨b1,0,none⟩)),(7,.pointer (some ⟨b41,0,none⟩))]) l65) w62 R:=by
        intro t61 he66 l65 w62 hS63
        subst he66
        try dsimp only at hp60
        refine sR 2 [.inRegion (opsOf p32_20) [0,1,2],.code p32_21] ?_
        refine rL 84 (.tmp 7) (loads_agg (hS63.blk 1 rfl) (by kernel_rfl) (lenK (len_api_Final _) (by kernel_rfl))) ?_
        refine r_store (c:=p32_20) (i:=1) (d:=none) (ty:=0) (t:=84) (x:=(.tmp 4)) (y:=(.tmp 68)) (b:=b1) (o:=0) (e:=84) (cs:=enc_api_Final (⟨0,(Vector.replicate 48 0)⟩ : api_Final)) (v:=.agg (enc_api_Final t61).toArray) (vs:=enc_api_Final t61) (cs':=enc_api_Final t61) hS63 (by kernel_rfl) (by kernel_rfl) (by kernel_rfl) (by kernel_rfl) (by kernel_rfl) (lenK (len_api_Final _) (by kernel_rfl)) (one_api_Final _) (by simp only [len_api_Final,List.length_cons,List.length_nil,List.length_append]; omega) (over_all ((len_api_Final _).trans (len_api_Final _).symm)) ?_
        intro w67 hS68
        refine sR 2 [.code p32_21] ?_
        have hS69:=hS68.drop
        have hS70:=hS69.drop
        refine runs_ret (fn:=Try.f32) (v:=.tuple #[.agg (enc_api_Final t61).toArray,.bool true]) Try.func32 (resl_run (fn:=Try.f32) (by kernel_rfl) (.cell (t:=4) (ty:=84) (by kernel_rfl) (loads_agg (hS68.blk 0 rfl) (by kernel_rfl) (lenK (len_api_Final _) (by kernel_rfl))) (.tmp (t:=5) (by kernel_rfl) .nil))) ?_
        cases Option.some.inj hp60
        exact hR _ _ ⟨rfl,hS70⟩
       refine sI 1 (.inRegion (opsOf p32_17) []::.code p32_18::td17) 66 hv59 (fun hp74 => ?_) fun hp86 => ?_
       ·refine sR 4 (.inRegion (opsOf p32_22) [1]::td17) ?_
        have hS75:=hS52.pick1
        refine r_store (c:=p32_22) (i:=1) (d:=none) (ty:=0) (t:=3) (x:=(.tmp 67)) (y:=(.const (.int .i64 (-1)))) (b:=b41) (o:=0) (e:=84) (cs:=enc_api_Final t50) (v:=.int .i64 (-1)) (vs:=[.int .i64 (-1)]) (cs':=enc_api_Final (⟨(-1),t50.V⟩ : api_Final)) hS75 (by kernel_rfl) (by kernel_rfl) (by kernel_rfl) (by kernel_rfl) (by kernel_rfl) (by kernel_rfl) (by kernel_rfl) (by simp only [len_api_Final,List.length_cons,List.length_nil,List.length_append]; omega) (put_api_Final_N _ _) ?_
        intro w76 hS77
        refine sR 1 td17 ?_
        have hS78:=hS77.pick7
        have hS79:=hS78.pick7
        have hS80:=hS79.pick7
        have hS81:=hS80.pick7
        have hS82:=hS81.pick7
        have hS83:=hS82.pick7
        have hS84:=hS83.pick6
        have hS85:=hS84.pick7
        exact rF _ (J64 (⟨(-1),t50.V⟩ : api_Final) (Option.some.inj hp74) _ _ hS85)
       refine sR 3 td17 ?_
       exact rF _ (J64 t50 (Option.some.inj hp86) _ _ hS52)
      refine sI 2 (.inRegion (opsOf (cd32 [1,1,1,1,1,1,0,0])) []::.code (cd32 [1,1,1,1,1,1,0,1])::td16) 55 hv48 (fun hp89 => ?_) fun hp108 => ?_
      ·refine sR 4 (iR p32_23 1 7::td16) ?_
       refine rL1 24 (.tmp 56) 2 (hS46.blk 1 rfl) ?_
       refine sR 1 (iR p32_23 3 5::td16) ?_
       obtain ⟨g90,hp91⟩:=ite_some hp89
       obtain ⟨b92,p93,hA94,hc95⟩:=y17.atF g90.1 g90.2
       refine r_indexAddr (c:=p32_23) (i:=3) (d:=(some 59)) (ty:=0) (t:=24) (e:=2) (n:=a2v.Value.length) (cp:=y14) (sz:=1) (kk:=.i64) (x:=(.tmp 57)) (y:=(.tmp 58)) (b:=b92) (o':=p93) (j:=t8) (by kernel_rfl) (by kernel_rfl) (slv (by kernel_rfl) hA94) (by kernel_rfl) (by kernel_rfl) (by kernel_rfl) g90.1 g90.2 ?_
       refine rL1 2 (.tmp 59) 0 (hc95.cells hS46) ?_
       refine sR 1 (.inRegion (opsOf p32_23) [6,7]::td16) ?_
       obtain ⟨g96,hp97⟩:=ite_some hp91
       refine r_indexArr (c:=p32_23) (i:=6) (d:=(some 62)) (ty:=0) (t:=82) (e:=2) (sz:=1) (kk:=.i64) (x:=(.tmp 61)) (y:=(.const (.int .i64 0))) (b:=b41) (o':=1) (n:=48) (j:=(0 : Int)) (by kernel_rfl) (by kernel_rfl) (by kernel_rfl) (by kernel_rfl) (by kernel_rfl) (by kernel_rfl) g96.1 g96.2 ?_
       refine r_store (c:=p32_23) (i:=7) (d:=none) (ty:=0) (t:=2) (x:=(.tmp 62)) (y:=(.tmp 60)) (b:=b41) (o:=1 + (0 : Int).toNat * 1) (e:=84) (cs:=enc_api_Final (⟨1,(Vector.replicate 48 0)⟩ : api_Final)) (v:=.int .i64 (gt a2v.Value t8)) (vs:=[.int .i64 (gt a2v.Value t8)]) (cs':=enc_api_Final (⟨1,(vset (Vector.replicate 48 0) (0 : Int) (gt a2v.Value t8))⟩ : api_Final)) hS46 (by kernel_rfl) (by kernel_rfl) (by kernel_rfl) (by kernel_rfl) (by kernel_rfl) (by kernel_rfl) (by kernel_rfl) (by have:=g96.1; have:=g96.2; simp only [len_api_Final,List.length_cons,List.length_nil,List.length_append]; omega) (over_api_Final_V _ _ _ g96.1 g96.2) ?_
       intro w98 hS99
       refine sR 1 td16 ?_
       have hS100:=hS99.pick1
       have hS101:=hS100.pick7
       have hS102:=hS101.pick7
       have hS103:=hS102.pick7
       have hS104:=hS103.pick7
       have hS105:=hS104.pick7
       have hS106:=hS105.pick6
       have hS107:=hS106.pick7
       exact rF _ (J53 (⟨1,(vset (Vector.replicate 48 0) (0 : Int) (gt a2v.Value t8))⟩ : api_Final) (Option.some.inj hp97) _ _ hS107)
      refine sR 3 td16 ?_
      have hS109:=hS46.pick1
      have hS110:=hS109.pick7
      have hS111:=hS110.pick7
      have hS112:=hS111.pick7
      have hS113:=hS112.pick7
      have hS114:=hS113.pick7
      have hS115:=hS114.pick6
      have hS116:=hS115.pick7
      exact rF _ (J53 (⟨1,(Vector.replicate 48 0)⟩ : api_Final) (Option.some.inj hp108) _ _ hS116)
     have hp117:=ite_t hp33 rfl
     refine sR 3 (.inRegion (opsOf (cd32 [1,1,1,1,0,1,0,0])) [0,1,2]::.code (cd32 [1,1,1,1,0,1,0,1])::td14) ?_
     refine rV (.build 84 #[]) (.agg (enc_api_Final (⟨0,(Vector.replicate 48 0)⟩ : api_Final)).toArray) (fun o ho _ => x_build (t:=84) (c:=(enc_api_Final (⟨0,(Vector.replicate 48 0)⟩ : api_Final) : List Value).toArray) (ps:=#[]) Try.underlying84 hz_84 hp_84 (by kernel_rfl) ho) ?_
     have hS118:=hS36.pick1
     refine r_store (c:=(cd32 [1,1,1,1,0,1,0,0])) (i:=1) (d:=none) (ty:=0) (t:=84) (x:=(.tmp 4)) (y:=(.tmp 49)) (b:=b1) (o:=0) (e:=84) (cs:=enc_api_Final (⟨0,(Vector.replicate 48 0)⟩ : api_Final)) (v:=.agg (enc_api_Final (⟨0,(Vector.replicate 48 0)⟩ : api_Final)).toArray) (vs:=enc_api_Final (⟨0,(Vector.replicate 48 0)⟩ : api_Final)) (cs':=enc_api_Final (⟨0,(Vector.replicate 48 0)⟩ : api_Final)) hS118 (by kernel_rfl) (by kernel_rfl) (by kernel_rfl) (by kernel_rfl) (by kernel_rfl) (lenK (len_api_Final _) (by kernel_rfl)) (one_api_Final _) (by simp only [len_api_Final,List.length_cons,List.length_nil,List.length_append]; omega) (over_all ((len_api_Final _).trans (len_api_Final _).symm)) ?_
     intro w119 hS120
     refine sR 2 (.code (cd32 [1,1,1,1,0,1,0,1])::td14) ?_
     have hS121:=hS120.drop
     have hS122:=hS121.pick5
     have hS123:=hS122.pick5
     have hS124:=hS123.pick5
     have hS125:=hS124.pick5
     have hS126:=hS125.pick5
     refine runs_ret (fn:=Try.f32) (v:=.tuple #[.agg (enc_api_Final (⟨0,(Vector.replicate 48 0)⟩ : api_Final)).toArray,.bool false]) Try.func32 (resl_run (fn:=Try.f32) (by kernel_rfl) (.cell (t:=4) (ty:=84) (by kernel_rfl) (loads_agg (hS120.blk 0 rfl) (by kernel_rfl) (lenK (len_api_Final _) (by kernel_rfl))) (.tmp (t:=5) (by kernel_rfl) .nil))) ?_
     cases Option.some.inj hp117
     exact hR _ _ ⟨rfl,hS126⟩
    refine sI 3 (iR p32_9 2 15::td15) 33 hv32 (fun hp130 => ?_) fun hp131 => ?_
    ·refine sR 16 td15 ?_
     exact rF _ (J37 true (Option.some.inj hp130) _ _ hS27)
    refine sR 3 (iR p32_9 5 12::td15) ?_
    refine rL1 23 (.tmp 36) 1 (hS27.blk 0 rfl) ?_
    refine sI 2 (iR p32_9 8 9::td15) 39 hp131 (fun hp134 => ?_) fun hp135 => ?_
    ·refine sR 10 td15 ?_
     exact rF _ (J37 true (Option.some.inj hp134) _ _ hS27)
    refine sR 3 (iR p32_9 11 6::td15) ?_
    refine rL1 23 (.tmp 42) 1 (hS27.blk 0 rfl) ?_
    refine sR 1 (iR p32_9 13 4::td15) ?_
    obtain ⟨g136,hp137⟩:=ite_some hp135
    obtain ⟨b138,p139,hA140,hc141⟩:=y16.atF g136.1 g136.2
    refine r_indexAddr (c:=p32_9) (i:=13) (d:=(some 45)) (ty:=0) (t:=23) (e:=4) (n:=a2v.End.length) (cp:=y12) (sz:=1) (kk:=.i64) (x:=(.tmp 43)) (y:=(.tmp 44)) (b:=b138) (o':=p139) (j:=t8) (by kernel_rfl) (by kernel_rfl) (slv (by kernel_rfl) hA140) (by kernel_rfl) (by kernel_rfl) (by kernel_rfl) g136.1 g136.2 ?_
    refine rL1 4 (.tmp 45) 0 (hc141.cells hS27) ?_
    refine r_split (gt a2v.End t8) (fun h142 => ?_) (fun h143 => ?_)
    ·have hp144:=ite_t hp137 h142
     refine sR 3 td15 ?_
     exact rF _ (J37 false (Option.some.inj hp144) _ _ hS27)
    have hp145:=ite_f hp137 h143
    refine sR 3 td15 ?_
    exact rF _ (J37 true (Option.some.inj hp145) _ _ hS27)
   cases t16
   ·have hp146:=ite_f hv23 rfl
    refine sR 2 td12 ?_
    have hS147:=hS18.pick4
    have hS148:=hS147.pick4
    have hS149:=hS148.pick4
    have hS150:=hS149.pick4
    have hS151:=hS150.pick4
    have hS152:=hS151.pick6
    have hS153:=hS152.pick6
    exact rF _ (J28 a1vv_3 (Option.some.inj hp146) _ _ hS153)
   have hp154:=ite_t hv23 rfl
   refine sR 2 (iR (cd32 [1,1,1,0,1,0]) 0 4::td12) ?_
   refine rL1 33 (.tmp 1) 0 (hS18.blk 0 rfl) ?_
   refine sR 2 (.inRegion (opsOf (cd32 [1,1,1,0,1,0])) [3]::td12) ?_
   have hS155:=hS18.pick1
   refine rS 4 (.tmp 31) (.const (.bool true)) 3 (.bool true) [.bool true] [.map (some ba1vv_0),.map (some ba1vv_1),.map (some ba1vv_2),.bool true] hS155 ?_
   intro w156 hS157
   refine sR 1 td12 ?_
   have hS158:=hS157.pick4
   have hS159:=hS158.pick4
   have hS160:=hS159.pick4
   have hS161:=hS160.pick3
   have hS162:=hS161.pick4
   have hS163:=hS162.pick6
   have hS164:=hS163.pick6
   exact rF _ (J28 true (Option.some.inj hp154) _ _ hS164)
  refine sR 1 (iR p32_6 0 11::td13) ?_
  refine rL1 33 (.tmp 1) 0 (hS12.blk 2 rfl) ?_
  refine sR 2 (iR p32_6 3 8::td13) ?_
  refine rL1 41 (.tmp 20) 1 (hS12.blk 3 rfl) ?_
  refine sR 1 (iR p32_6 5 6::td13) ?_
  refine rV (.lookup 41 (.tmp 21) (.tmp 22) false) (.int .i64 ((mget (mput a1vv_1m a0 (IntKind.i64.wrap (((mget a1vv_1m a0).getD (0 : Int)) + 1))) a0).getD (0 : Int))) (fun o ho _ => x_lookup1 (eK:=Value.string) (eV:=(Value.int .i64)) (dk:=.string) (b:=ba1vv_1) (t:=41) (kt:=9) (et:=3) (m:=(mput a1vv_1m a0 (IntKind.i64.wrap (((mget a1vv_1m a0).getD (0 : Int)) + 1)))) (kk:=a0) (z:=(0 : Int)) (hS12.at 0 rfl) key_str (by kernel_rfl) (by kernel_rfl) (by kernel_rfl) (by kernel_rfl) (by kernel_rfl) ho) ?_
  refine sI 1 (iR p32_6 7 4::td13) 24 hv14 (fun hp167 => ?_) fun hp175 => ?_
  ·refine sR 5 td13 ?_
   have hS168:=hS12.pick1
   have hS169:=hS168.pick6
   have hS170:=hS169.pick6
   have hS171:=hS170.pick3
   have hS172:=hS171.pick6
   have hS173:=hS172.pick6
   have hS174:=hS173.pick6
   exact rF _ (J19 true (Option.some.inj hp167) _ _ hS174)
  refine sI 3 (.inRegion (opsOf p32_6) [10]::td13) 27 hp175 (fun hp178 => ?_) fun hp186 => ?_
  ·refine sR 2 td13 ?_
   have hS179:=hS12.pick1
   have hS180:=hS179.pick6
   have hS181:=hS180.pick6
   have hS182:=hS181.pick3
   have hS183:=hS182.pick6
   have hS184:=hS183.pick6
   have hS185:=hS184.pick6
   exact rF _ (J19 true (Option.some.inj hp178) _ _ hS185)
  refine sR 2 td13 ?_
  have hS187:=hS12.pick1
  have hS188:=hS187.pick6
  have hS189:=hS188.pick6
  have hS190:=hS189.pick3
  have hS191:=hS190.pick6
  have hS192:=hS191.pick6
  have hS193:=hS192.pick6
  exact rF _ (J19 false (Option.some.inj hp186) _ _ hS193)

noncomputable def cd33 (p : List Nat) : Code := sub (bodyOf Try.f33) p
abbrev p33_9:=cd33 [1,1,1,1]
abbrev p33_13:=cd33 [1,1,1,1,0]
abbrev p33_14:=cd33 [1,1,1,1,1]
abbrev p33_15:=cd33 [1,1,1,1,1,0]
abbrev p33_17:=cd33 [1,1,1,1,1,1,0]
abbrev p33_18:=cd33 [1,1,1,1,1,1,1]
abbrev p33_19:=cd33 [1,1,1,1,1,1,1,0]
abbrev p33_20:=cd33 [1,1,1,1,1,1,1,1]
abbrev p33_21:=cd33 [1,1,1,1,1,1,1,1,0]
abbrev p33_22:=cd33 [1,1,1,1,1,1,1,1,1]
abbrev p33_23:=cd33 [1,1,1,1,1,1,1,1,1,0]
abbrev p33_24:=cd33 [1,1,1,1,1,1,1,1,1,1]
abbrev p33_25:=cd33 [1,1,1,1,1,1,1,1,1,1,0]
abbrev p33_27:=cd33 [1,1,1,1,1,1,1,1,1,1,1,0]
abbrev p33_28:=cd33 [1,1,1,1,1,1,1,1,1,1,1,1]
abbrev p33_29:=cd33 [1,1,1,1,1,1,1,1,1,1,1,1,0]
abbrev p33_32:=cd33 [1,1,1,1,1,1,1,1,1,1,1,1,1,1]
abbrev td18:List Item:=[.code (cd33 [1,1,0,1]),.code (cd33 [1,1,1])]
abbrev td19:List Item:=.code (cd33 [1,1,0,0])::td18
def weirref14_Graph__put.f (y18 : List ByteArray) (y19 : List Int) (y20 : List (List weirref14_Move)) (y21 : List Bool) (y22 : List api_Final) (y23 : List Int) (y24 : List api_Pick) (y25 : Bool) (a0v_8m : List (ByteArray × Int)) (y26 : ByteArray) (a1_1c0vv_0m a1_1c0vv_1m a1_1c0vv_2m : List (ByteArray × Int)) (a1_1c0vv_3 : Bool) (a1_1c1v : weirlaw14_Net) (a2 : Int) (a3 : ByteArray) (a4 a5 : Int) (a6 : api_Pick) : Option (Int × (List ByteArray) × (List Int) × (List (List weirref14_Move)) × (List Bool) × (List api_Final) × (List Int) × (List api_Pick) × Bool × (List (ByteArray × Int)) × Bool × (List (ByteArray × Int))) :=
  (((if (mget a0v_8m a3).isSome = true then some ((((mget a0v_8m a3).getD (0 : Int)),true)) else some ((((mget a0v_8m a3).getD (0 : Int)),false))) : Option (Int × Bool)) >>= (fun (t12,t13) => (if t13 = true then some ((t12,y18,y19,y20,y21,y22,y23,y24,y25,a0v_8m,a1_1c0vv_3,a1_1c0vv_1m)) else (if (decide ((y18.length : Int) ≥ a2)) = true then some (((-1),y18,y19,y20,y21,y22,y23,y24,false,a0v_8m,a1_1c0vv_3,a1_1c0vv_1m)) else (weirlaw14_Net__machine_3.f a3 a1_1c0vv_0m a1_1c0vv_1m a1_1c0vv_2m a1_1c0vv_3 a1_1c1v >>= (fun (t46,t47,t48,t49) => (if (y18.length + ([a3] : List ByteArray).length) * 16 ≤ 140737488355328 then (if (y19.length + ([a4] : List Int).length) * 8 ≤ 140737488355328 then (if (y20.length + 1) * 24 ≤ 140737488355328 then (if (y21.length + ([t47] : List Bool).length) * 1 ≤ 140737488355328 then (if (y22.length + ([t46] : List api_Final).length) * 392 ≤ 140737488355328 then (if (y23.length + ([a5] : List Int).length) * 8 ≤ 140737488355328 then (if (y24.length + ([a6] : List api_Pick).length) * 24 ≤ 140737488355328 then some (((IntKind.i64.wrap (((y18 ++ ([a3] : List ByteArray)).length : Int) - 1)),(y18 ++ ([a3] : List ByteArray)),(y19 ++ ([a4] : List Int)),(y20 ++ [([] : List weirref14_Move)]),(y21 ++ ([t47] : List Bool)),(y22 ++ ([t46] : List api_Final)),(y23 ++ ([a5] : List Int)),(y24 ++ ([a6] : List api_Pick)),y25,(mput a0v_8m a3 (y18.length : Int)),t48,t49)) else none) else none) else none) else none) else none) else none) else none)))))))
theorem weirref14_Graph__put.ok {y18 : List ByteArray} {y19 : List Int} {y20 : List (List weirref14_Move)} {y21 : List Bool} {y22 : List api_Final} {y23 : List Int} {y24 : List api_Pick} {y25 : Bool} {a0v_8m : List (ByteArray × Int)} {y26 : ByteArray} {a1_1c0vv_0m a1_1c0vv_1m a1_1c0vv_2m : List (ByteArray × Int)} {a1_1c0vv_3 : Bool} {a1_1c1v : weirlaw14_Net} {a2 : Int} {a3 : ByteArray} {a4 a5 : Int} {a6 : api_Pick} {ba0 : Nat} {y27 : Option Addr} {y28 : Nat} {y29 : Option Addr} {y30 : Nat} {y31 : Option Addr} {y32 : Nat} {y33 : Nat → Option Addr × Nat} {y34 : Option Addr} {y35 : Nat} {y36 : Option Addr} {y37 : Nat} {y38 : Option Addr} {y39 : Nat} {y40 : Option Addr} {y41 y42 : Nat} {ba1_1c0 ba1_1c0v : Nat} {ba1_1c0vv_0 ba1_1c0vv_1 : Nat} {ba1_1c0vv_2 ba1_1c1 : Nat} {Aa1_1c1v_0 : Option Addr} {ca1_1c1v_0 : Nat} {Aa1_1c1v_1 : Option Addr} {ca1_1c1v_1 : Nat} {Aa1_1c1v_2 : Option Addr} {ca1_1c1v_2 : Nat} {q0 : Int} {q1 : List ByteArray} {q2 : List Int} {q3 : List (List weirref14_Move)} {q4 : List Bool} {q5 : List api_Final} {q6 : List Int} {q7 : List api_Pick} {q8 : Bool} {q9 : List (ByteArray × Int)} {q10 : Bool} {q11 : List (ByteArray × Int)} (hp0 : weirref14_Graph__put.f y18 y19 y20 y21 y22 y23 y24 y25 a0v_8m y26 a1_1c0vv_0m a1_1c0vv_1m a1_1c0vv_2m a1_1c0vv_3 a1_1c1v a2 a3 a4 a5 a6 = some (q0,q1,q2,q3,q4,q5,q6,q7,q8,q9,q10,q11)) (hS0 : St w0 Z (xblk ba0 43 ([.slice y27 y18.length y28,.slice y29 y19.length y30,.slice y31 y20.length y32,.slice y34 y21.length y35,.slice y36 y22.length y37,.slice y38 y23.length y39,.slice y40 y24.length y41,.bool y25,.map (some y42)])::xrow y27 y28 9 1 (y18.flatMap encS)::xrow y29 y30 3 1 (y19.flatMap (encI .i64))::xrr y31 y32 93 y33 95 4 enc_weirref14_Move y20::xrow y34 y35 4 1 (y21.flatMap encB)::xrow y36 y37 84 49 (y22.flatMap enc_api_Final)::xrow y38 y39 3 1 (y23.flatMap (encI .i64))::xrow y40 y41 88 3 (y24.flatMap enc_api_Pick)::xmap y42 (a0v_8m.map (kv Value.string (Value.int .i64)))::xblk ba1_1c0 33 ([.pointer (some ⟨ba1_1c0v,0,none⟩)])::xblk ba1_1c0v 49 ([.map (some ba1_1c0vv_0),.map (some ba1_1c0vv_1),.map (some ba1_1c0vv_2),.bool a1_1c0vv_3])::xmap ba1_1c0vv_0 (a1_1c0vv_0m.map (kv Value.string (Value.int .i64)))::xmap ba1_1c0vv_1 (a1_1c0vv_1m.map (kv Value.string (Value.int .i64)))::xmap ba1_1c0vv_2 (a1_1c0vv_2m.map (kv Value.string (Value.int .i64)))::xblk ba1_1c1 26 ([.slice Aa1_1c1v_0 a1_1c1v.Next.length ca1_1c1v_0,.slice Aa1_1c1v_1 a1_1c1v.End.length ca1_1c1v_1,.slice Aa1_1c1v_2 a1_1c1v.Value.length ca1_1c1v_2,.int .i64 a1_1c1v.Start])::fs) w) (ha1_1c1v_0 : SlZ (repL (flat (encI .i64)) 1) 1 Z Aa1_1c1v_0 ca1_1c1v_0 a1_1c1v.Next) (ha1_1c1v_1 : SlZ (flat encB) 1 Z Aa1_1c1v_1 ca1_1c1v_1 a1_1c1v.End) (ha1_1c1v_2 : SlZ (flat (encI .i64)) 1 Z Aa1_1c1v_2 ca1_1c1v_2 a1_1c1v.Value) :
    Calls Try.prog 33 #[.pointer (some ⟨ba0,0,none⟩),.agg #[.string y26,.func (.func 28) #[] #[.pointer (some ⟨ba1_1c0,0,none⟩),.pointer (some ⟨ba1_1c1,0,none⟩)],.func (.func 31) #[] #[.pointer (some ⟨ba1_1c1,0,none⟩),.pointer (some ⟨ba1_1c0,0,none⟩)],.func (.func 32) #[] #[.pointer (some ⟨ba1_1c0,0,none⟩),.pointer (some ⟨ba1_1c1,0,none⟩)]],.int .i64 a2,.string a3,.int .i64 a4,.int .i64 a5,.agg (enc_api_Pick a6).toArray] w (fun e w' => ∃ (QA0 : Option Addr) (Qc0 : Nat) (QA2 : Option Addr) (Qc2 : Nat) (QA4 : Option Addr) (Qc4 : Nat) (Qh4 : Nat → Option Addr × Nat) (QA7 : Option Addr) (Qc7 : Nat) (QA9 : Option Addr) (Qc9 : Nat) (QA11 : Option Addr) (Qc11 : Nat) (QA13 : Option Addr) (Qc13 : Nat),e = .returned (.int .i64 q0) ∧ St w0 Z (xrow QA0 Qc0 9 1 (q1.flatMap encS)::xrow QA2 Qc2 3 1 (q2.flatMap (encI .i64))::xrr QA4 Qc4 93 Qh4 95 4 enc_weirref14_Move q3::xrow QA7 Qc7 4 1 (q4.flatMap encB)::xrow QA9 Qc9 84 49 (q5.flatMap enc_api_Final)::xrow QA11 Qc11 3 1 (q6.flatMap (encI .i64))::xrow QA13 Qc13 88 3 (q7.flatMap enc_api_Pick)::xblk ba0 43 ([.slice QA0 q1.length Qc0,.slice QA2 q2.length Qc2,.slice QA4 q3.length Qc4,.slice QA7 q4.length Qc7,.slice QA9 q5.length Qc9,.slice QA11 q6.length Qc11,.slice QA13 q7.length Qc13,.bool q8,.map (some y42)])::xmap y42 (q9.map (kv Value.string (Value.int .i64)))::xblk ba1_1c0 33 ([.pointer (some ⟨ba1_1c0v,0,none⟩)])::xblk ba1_1c0v 49 ([.map (some ba1_1c0vv_0),.map (some ba1_1c0vv_1),.map (some ba1_1c0vv_2),.bool q10])::xmap ba1_1c0vv_0 (a1_1c0vv_0m.map (kv Value.string (Value.int .i64)))::xmap ba1_1c0vv_1 (q11.map (kv Value.string (Value.int .i64)))::xmap ba1_1c0vv_2 (a1_1c0vv_2m.map (kv Value.string (Value.int .i64)))::xblk ba1_1c1 26 ([.slice Aa1_1c1v_0 a1_1c1v.Next.length ca1_1c1v_0,.slice Aa1_1c1v_1 a1_1c1v.End.length ca1_1c1v_1,.slice Aa1_1c1v_2 a1_1c1v.Value.length ca1_1c1v_2,.int .i64 a1_1c1v.Start])::fs) w'):=by
  refine calls_abs ?_; intro R hR
  unfold weirref14_Graph__put.f at hp0
  refine calls_of_runs (fn:=Try.f33) (c:=cd33 []) Try.func33 (by kernel_rfl) (al:=[.pointer (some ⟨ba0,0,none⟩),.agg #[.string y26,.func (.func 28) #[] #[.pointer (some ⟨ba1_1c0,0,none⟩),.pointer (some ⟨ba1_1c1,0,none⟩)],.func (.func 31) #[] #[.pointer (some ⟨ba1_1c1,0,none⟩),.pointer (some ⟨ba1_1c0,0,none⟩)],.func (.func 32) #[] #[.pointer (some ⟨ba1_1c0,0,none⟩),.pointer (some ⟨ba1_1c1,0,none⟩)]],.int .i64 a2,.string a3,.int .i64 a4,.int .i64 a5,.agg (enc_api_Pick a6).toArray]) rfl (n:=125) rfl ?_
  refine sR 2 [.inRegion (opsOf (cd33 [0])) [0,1,2],.code (cd33 [1])] ?_
  refine r_box (c:=(cd33 [0])) (i:=0) (d:=(some 8)) (ty:=0) (x:=(.tmp 1)) (v:=.agg #[.string y26,.func (.func 28) #[] #[.pointer (some ⟨ba1_1c0,0,none⟩),.pointer (some ⟨ba1_1c1,0,none⟩)],.func (.func 31) #[] #[.pointer (some ⟨ba1_1c1,0,none⟩),.pointer (some ⟨ba1_1c0,0,none⟩)],.func (.func 32) #[] #[.pointer (some ⟨ba1_1c0,0,none⟩),.pointer (some ⟨ba1_1c1,0,none⟩)]]) (t:=32) (cs:=[.string y26,.func (.func 28) #[] #[.pointer (some ⟨ba1_1c0,0,none⟩),.pointer (some ⟨ba1_1c1,0,none⟩)],.func (.func 31) #[] #[.pointer (some ⟨ba1_1c1,0,none⟩),.pointer (some ⟨ba1_1c0,0,none⟩)],.func (.func 32) #[] #[.pointer (some ⟨ba1_1c0,0,none⟩),.pointer (some ⟨ba1_1c1,0,none⟩)]]) hS0 (by kernel_rfl) (by kernel_rfl) (by kernel_rfl) (by kernel_rfl) ?_
  intro b1 w2 hS3
  refine r_box (c:=(cd33 [0])) (i:=1) (d:=(some 13)) (ty:=0) (x:=(.tmp 6)) (v:=.agg (enc_api_Pick a6).toArray) (t:=88) (cs:=enc_api_Pick a6) hS3 (by kernel_rfl) (by kernel_rfl) (by kernel_rfl) (by kernel_rfl) ?_
  intro b5 w6 hS7
  refine sR 7 [iR (cd33 [1,0]) 3 8,.code (cd33 [1,1])] ?_
  refine rL1 41 (.tmp 22) 8 (hS7.blk 2 rfl) ?_
  refine sR 1 [iR (cd33 [1,0]) 5 6,.code (cd33 [1,1])] ?_
  refine rV (.lookup 41 (.tmp 23) (.tmp 24) true) (.tuple #[.int .i64 ((mget a0v_8m a3).getD (0 : Int)),.bool ((mget a0v_8m a3).isSome)]) (fun o ho _ => x_lookup2 (eK:=Value.string) (eV:=(Value.int .i64)) (dk:=.string) (b:=y42) (t:=41) (kt:=9) (et:=3) (m:=a0v_8m) (kk:=a3) (z:=(0 : Int)) (hS7.at 10 rfl) key_str (by kernel_rfl) (by kernel_rfl) (by kernel_rfl) (by kernel_rfl) (by kernel_rfl) ho) ?_
  obtain ⟨v9,hv10,hp11⟩:=bind_some' hp0
  have J16 : ∀ (t12 : Int) (t13 : Bool) (he18 : (t12,t13) = v9) (l17 : List Value) (w14 : World) (hS15 : St w0 Z (xblk ba0 43 ([.slice y27 y18.length y28,.slice y29 y19.length y30,.slice y31 y20.length y32,.slice y34 y21.length y35,.slice y36 y22.length y37,.slice y38 y23.length y39,.slice y40 y24.length y41,.bool y25,.map (some y42)])::xrow y27 y28 9 1 (y18.flatMap encS)::xrow y29 y30 3 1 (y19.flatMap (encI .i64))::xrr y31 y32 93 y33 95 4 enc_weirref14_Move y20::xrow y34 y35 4 1 (y21.flatMap encB)::xrow y36 y37 84 49 (y22.flatMap enc_api_Final)::xrow y38 y39 3 1 (y23.flatMap (encI .i64))::xrow y40 y41 88 3 (y24.flatMap enc_api_Pick)::xmap y42 (a0v_8m.map (kv Value.string (Value.int .i64)))::xblk b1 32 ([.string y26,.func (.func 28) #[] #[.pointer (some ⟨ba1_1c0,0,none⟩),.pointer (some ⟨ba1_1c1,0,none⟩)],.func (.func 31) #[] #[.pointer (some ⟨ba1_1c1,0,none⟩),.pointer (some ⟨ba1_1c0,0,none⟩)],.func (.func 32) #[] #[.pointer (some ⟨ba1_1c0,0,none⟩),.pointer (some ⟨ba1_1c1,0,none⟩)]])::xblk ba1_1c0 33 ([.pointer (some ⟨ba1_1c0v,0,none⟩)])::xblk ba1_1c0v 49 ([.map (some ba1_1c0vv_0),.map (some ba1_1c0vv_1),.map (some ba1_1c0vv_2),.bool a1_1c0vv_3])::xmap ba1_1c0vv_0 (a1_1c0vv_0m.map (kv Value.string (Value.int .i64)))::xmap ba1_1c0vv_1 (a1_1c0vv_1m.map (kv Value.string (Value.int .i64)))::xmap ba1_1c0vv_2 (a1_1c0vv_2m.map (kv Value.string (Value.int .i64)))::xblk ba1_1c1 26 ([.slice Aa1_1c1v_0 a1_1c1v.Next.length ca1_1c1v_0,.slice Aa1_1c1v_1 a1_1c1v.End.length ca1_1c1v_1,.slice Aa1_1c1v_2 a1_1c1v.Value.length ca1_1c1v_2,.int .i64 a1_1c1v.Start])::xblk b5 88 (enc_api_Pick a6)::fs) w14),Runs Try.prog (fx 33) td19 (fill (mk 132 [(0,.pointer (some ⟨ba0,0,none⟩)),(2,.int .i64 a2),(3,.string a3),(4,.int .i64 a4),(5,.int .i64 a5),(8,.pointer (some ⟨b1,0,none⟩)),(13,.pointer (some ⟨b5,0,none⟩)),(15,.int .i64 t12),(16,.bool t13)]) l17) w14 R:=by
   intro t12 t13 he18 l17 w14 hS15
   subst he18
   try dsimp only at hp11
   refine sR 3 td18 ?_
   cases t13
   ·have hp19:=ite_f hp11 rfl
    refine sR 8 [iR (cd33 [1,1,1,0,0]) 3 4,.code (cd33 [1,1,1,0,1]),.code p33_9] ?_
    refine rL1 36 (.tmp 32) 0 (hS15.blk 0 rfl) ?_
    refine sI 3 [.inRegion (opsOf (cd33 [1,1,1,0,0])) [],.code (cd33 [1,1,1,0,1]),.code p33_9] 36 hp19 (fun hp22 => ?_) fun hp45 => ?_
    ·refine sR 7 [.inRegion (opsOf (cd33 [1,1,1,0,1,0,0])) [3],.code (cd33 [1,1,1,0,1,0,1]),.code p33_9] ?_
     refine rS 4 (.tmp 39) (.const (.bool false)) 7 (.bool false) [.bool false] [.slice y27 y18.length y28,.slice y29 y19.length y30,.slice y31 y20.length y32,.slice y34 y21.length y35,.slice y36 y22.length y37,.slice y38 y23.length y39,.slice y40 y24.length y41,.bool false,.map (some y42)] hS15 ?_
     intro w23 hS24
     refine sR 5 [.code (cd33 [1,1,1,0,1,0,1,1]),.code p33_9] ?_
     have hS25:=hS24.pick9
     have hS26:=hS25.drop
     have hS27:=hS26.pick15
     have hS28:=hS27.drop
     have hS29:=hS28.pick14
     have hS30:=hS29.pick14
     have hS31:=hS30.pick14
     have hS32:=hS31.pick14
     have hS33:=hS32.pick14
     have hS34:=hS33.pick14
     have hS35:=hS34.pick14
     have hS36:=hS35.pick7
     have hS37:=hS36.pick14
     have hS38:=hS37.pick14
     have hS39:=hS38.pick14
     have hS40:=hS39.pick14
     have hS41:=hS40.pick14
     have hS42:=hS41.pick14
     have hS43:=hS42.pick14
     refine rR (.int .i64 (-1)) Try.func33 ?_
     cases Option.some.inj hp22
     exact hR _ _ ⟨y27,y28,y29,y30,y31,y32,(y33),y34,y35,y36,y37,y38,y39,y40,y41,rfl,hS43⟩
    refine sR 6 [iR p33_13 1 9,.code p33_14] ?_
    refine rL1 30 (.tmp 41) 3 (hS15.blk 9 rfl) ?_
    refine sR 1 [iR p33_13 3 7,.code p33_14] ?_
    obtain ⟨⟨t46,t47,t48,t49⟩,hr50,hp51⟩:=bind_some' hp45
    try dsimp only at hp51
    have hS55:=hS15.pick15
    have hS56:=hS55.pick15
    have hS57:=hS56.pick15
    have hS58:=hS57.pick15
    have hS59:=hS58.pick15
    have hS60:=hS59.pick15
    refine rC (weirlaw14_Net__machine_3.ok hr50 hS60 ha1_1c1v_0 ha1_1c1v_1 ha1_1c1v_2) ?_
    rintro _ w61 ⟨rfl,hS62⟩
    refine ⟨_,rfl,?_⟩
    refine sR 3 [.inRegion (opsOf p33_13) [7,8,9],.code p33_14] ?_
    refine rA 84 (.agg (enc_api_Final (⟨0,(Vector.replicate 48 0)⟩ : api_Final)).toArray) (enc_api_Final (⟨0,(Vector.replicate 48 0)⟩ : api_Final)) hS62 ?_
    intro b63 w64 hS65
    refine r_store (c:=p33_13) (i:=8) (d:=none) (ty:=0) (t:=84) (x:=(.tmp 17)) (y:=(.tmp 45)) (b:=b63) (o:=0) (e:=84) (cs:=enc_api_Final (⟨0,(Vector.replicate 48 0)⟩ : api_Final)) (v:=.agg (enc_api_Final t46).toArray) (vs:=enc_api_Final t46) (cs':=enc_api_Final t46) hS65 (by kernel_rfl) (by kernel_rfl) (by kernel_rfl) (by kernel_rfl) (by kernel_rfl) (lenK (len_api_Final _) (by kernel_rfl)) (one_api_Final _) (by simp only [len_api_Final,List.length_cons,List.length_nil,List.length_append]; omega) (over_all ((len_api_Final _).trans (len_api_Final _).symm)) ?_
    intro w67 hS68
    refine sR 3 [.code p33_15,.code (cd33 [1,1,1,1,1,1])] ?_
    refine r_drawn3 (C:=St w0 Z (xblk b63 84 (enc_api_Final t46)::xblk ba1_1c0 33 ([.pointer (some ⟨ba1_1c0v,0,none⟩)])::xblk ba1_1c0v 49 ([.map (some ba1_1c0vv_0),.map (some ba1_1c0vv_1),.map (some ba1_1c0vv_2),.bool t48])::xmap ba1_1c0vv_0 (a1_1c0vv_0m.map (kv Value.string (Value.int .i64)))::xmap ba1_1c0vv_1 (t49.map (kv Value.string (Value.int .i64)))::xmap ba1_1c0vv_2 (a1_1c0vv_2m.map (kv Value.string (Value.int .i64)))::xblk ba1_1c1 26 ([.slice Aa1_1c1v_0 a1_1c1v.Next.length ca1_1c1v_0,.slice Aa1_1c1v_1 a1_1c1v.End.length ca1_1c1v_1,.slice Aa1_1c1v_2 a1_1c1v.Value.length ca1_1c1v_2,.int .i64 a1_1c1v.Start])::xblk ba0 43 ([.slice y27 y18.length y28,.slice y29 y19.length y30,.slice y31 y20.length y32,.slice y34 y21.length y35,.slice y36 y22.length y37,.slice y38 y23.length y39,.slice y40 y24.length y41,.bool y25,.map (some y42)])::xrow y27 y28 9 1 (y18.flatMap encS)::xrow y29 y30 3 1 (y19.flatMap (encI .i64))::xrr y31 y32 93 y33 95 4 enc_weirref14_Move y20::xrow y34 y35 4 1 (y21.flatMap encB)::xrow y36 y37 84 49 (y22.flatMap enc_api_Final)::xrow y38 y39 3 1 (y23.flatMap (encI .i64))::xrow y40 y41 88 3 (y24.flatMap enc_api_Pick)::xmap y42 (a0v_8m.map (kv Value.string (Value.int .i64)))::xblk b1 32 ([.string y26,.func (.func 28) #[] #[.pointer (some ⟨ba1_1c0,0,none⟩),.pointer (some ⟨ba1_1c1,0,none⟩)],.func (.func 31) #[] #[.pointer (some ⟨ba1_1c1,0,none⟩),.pointer (some ⟨ba1_1c0,0,none⟩)],.func (.func 32) #[] #[.pointer (some ⟨ba1_1c0,0,none⟩),.pointer (some ⟨ba1_1c1,0,none⟩)]])::xblk b5 88 (enc_api_Pick a6)::fs)) (c:=p33_15) (id:=8) (by kernel_rfl) (by kernel_rfl) 10 (Nat.le_of_ble_eq_true (by kernel_rfl)) (by kernel_rfl) (by kernel_rfl) (by kernel_rfl) (is:=[0,1,2,3,4,5,6,7,8,9]) (rest:=[10]) (by kernel_rfl) (by kernel_rfl) hS68.drew ?_
    refine qR 3 (rg 3 7) ?_
    refine qL1 41 (.tmp 49) 8 (fun w hC => (hC.blk 7 rfl)) ?_
    refine qR 4 [8,9] ?_
    refine qL1 36 (.tmp 54) 0 (fun w hC => (hC.blk 7 rfl)) ?_
    refine qR 1 [] ?_
    refine Qs.nil ?_
    intro w69 hS70
    have hS71:=hS70.pick15
    refine r_mapUpdate (c:=p33_15) (i:=10) (d:=none) (ty:=0) (eK:=Value.string) (eV:=(Value.int .i64)) (dk:=.string) (b:=y42) (t:=41) (kt:=9) (et:=3) (x:=(.tmp 50)) (y:=(.tmp 51)) (z:=(.tmp 56)) (m:=a0v_8m) (kk:=a3) (v:=(y18.length : Int)) hS71 (by kernel_rfl) (by kernel_rfl) key_str (by kernel_rfl) (by kernel_rfl) (by kernel_rfl) (by kernel_rfl) (by kernel_rfl) ?_
    intro w72 hS73
    refine sR 7 [iR p33_17 4 7,.code p33_18] ?_
    refine rL1 36 (.tmp 60) 0 (hS73.blk 8 rfl) ?_
    refine sR 1 [iR p33_17 6 5,.code p33_18] ?_
    refine r_lit (c:=p33_17) (i:=6) (d:=(some 63)) (ty:=36) (t:=36) (e:=9) (sz:=1) (n:=1) (parts:=#[(0,(.tmp 62))]) (vs:=[(0,.string a3)]) (z:=zeroOf Try.prog 9) (cs':=([a3] : List ByteArray).flatMap encS) hS73 (by kernel_rfl) (by kernel_rfl) (by kernel_rfl) (by kernel_rfl) (by kernel_rfl) (by decide) (by decide) (by kernel_rfl) rfl (Parts.cons (c:=[.string a3]) (by kernel_rfl) rfl Parts.nil) rfl ?_
    intro b75 w76 hS77
    have hS78:=hS77.pick10
    obtain ⟨g79,hp80⟩:=ite_some hp51
    refine r_append (c:=p33_17) (i:=7) (d:=(some 64)) (ty:=36) (enc:=encS) (e:=9) (u:=9) (t:=36) (t2:=36) (sz:=1) (cp:=y28) (A:=y27) (bytes:=16) (xs:=y18) (ys:=([a3] : List ByteArray)) (s:=(.tmp 61)) (x:=(.tmp 63)) (xv:=.slice (some ⟨b75,0,none⟩) ([a3] : List ByteArray).length 1) (info:=infoOf Try.prog 9) (z:=zeroOf Try.prog 9) (ycs:=([a3] : List ByteArray).flatMap encS) hS78 (by kernel_rfl) (by kernel_rfl) (by kernel_rfl) (by kernel_rfl) (by kernel_rfl) (.inl (by kernel_rfl)) (by kernel_rfl) (by kernel_rfl) (by kernel_rfl) (by kernel_rfl) (by kernel_rfl) (by omega) len_encS one_encS (src_row (hS78.row 1 rfl) (by omega) len_encS) rfl g79 (by omega) ?_
    intro A81 c82 w83 hS84
    refine sR 2 [.inRegion (opsOf p33_17) [10],.code p33_18] ?_
    have hS86:=hS84.pick10
    refine rS 36 (.tmp 66) (.tmp 64) 0 (.slice A81 (y18 ++ ([a3] : List ByteArray)).length c82) [.slice A81 (y18 ++ ([a3] : List ByteArray)).length c82] [.slice A81 (y18 ++ ([a3] : List ByteArray)).length c82,.slice y29 y19.length y30,.slice y31 y20.length y32,.slice y34 y21.length y35,.slice y36 y22.length y37,.slice y38 y23.length y39,.slice y40 y24.length y41,.bool y25,.map (some y42)] hS86 ?_
    intro w87 hS88
    refine sR 7 [iR p33_19 4 7,.code p33_20] ?_
    refine rL1 37 (.tmp 70) 1 (hS88.blk 0 rfl) ?_
    refine sR 1 [iR p33_19 6 5,.code p33_20] ?_
    refine r_lit (c:=p33_19) (i:=6) (d:=(some 73)) (ty:=37) (t:=37) (e:=3) (sz:=1) (n:=1) (parts:=#[(0,(.tmp 72))]) (vs:=[(0,.int .i64 a4)]) (z:=zeroOf Try.prog 3) (cs':=([a4] : List Int).flatMap (encI .i64)) hS88 (by kernel_rfl) (by kernel_rfl) (by kernel_rfl) (by kernel_rfl) (by kernel_rfl) (by decide) (by decide) (by kernel_rfl) rfl (Parts.cons (c:=[.int .i64 a4]) (by kernel_rfl) rfl Parts.nil) rfl ?_
    intro b90 w91 hS92
    have hS93:=hS92.pick12
    obtain ⟨g94,hp95⟩:=ite_some hp80
    refine r_append (c:=p33_19) (i:=7) (d:=(some 74)) (ty:=37) (enc:=(encI .i64)) (e:=3) (u:=3) (t:=37) (t2:=37) (sz:=1) (cp:=y30) (A:=y29) (bytes:=8) (xs:=y19) (ys:=([a4] : List Int)) (s:=(.tmp 71)) (x:=(.tmp 73)) (xv:=.slice (some ⟨b90,0,none⟩) ([a4] : List Int).length 1) (info:=infoOf Try.prog 3) (z:=zeroOf Try.prog 3) (ycs:=([a4] : List Int).flatMap (encI .i64)) hS93 (by kernel_rfl) (by kernel_rfl) (by kernel_rfl) (by kernel_rfl) (by kernel_rfl) (.inl (by kernel_rfl)) (by kernel_rfl) (by kernel_rfl) (by kernel_rfl) (by kernel_rfl) (by kernel_rfl) (by omega) (len_encI .i64) (one_encI .i64) (src_row (hS93.row 1 rfl) (by omega) (len_encI .i64)) rfl g94 (by omega) ?_
    intro A96 c97 w98 hS99
    refine sR 2 [.inRegion (opsOf p33_19) [10],.code p33_20] ?_
    have hS101:=hS99.pick2
    refine rS 37 (.tmp 76) (.tmp 74) 1 (.slice A96 (y19 ++ ([a4] : List Int)).length c97) [.slice A96 (y19 ++ ([a4] : List Int)).length c97] [.slice A81 (y18 ++ ([a3] : List ByteArray)).length c82,.slice A96 (y19 ++ ([a4] : List Int)).length c97,.slice y31 y20.length y32,.slice y34 y21.length y35,.slice y36 y22.length y37,.slice y38 y23.length y39,.slice y40 y24.length y41,.bool y25,.map (some y42)] hS101 ?_
    intro w102 hS103
    refine sR 7 [iR p33_21 4 6,.code p33_22] ?_
    refine rL1 38 (.tmp 80) 2 (hS103.blk 0 rfl) ?_
    refine r_lit (c:=p33_21) (i:=5) (d:=(some 82)) (ty:=38) (t:=38) (e:=93) (sz:=1) (n:=1) (parts:=#[(0,(.const (.slice none 0 0)))]) (vs:=[(0,.slice none 0 0)]) (z:=zeroOf Try.prog 93) (cs':=([(none,0,0)] : List Hd3).flatMap encH) hS103 (by kernel_rfl) (by kernel_rfl) (by kernel_rfl) (by kernel_rfl) (by kernel_rfl) (by decide) (by decide) (by kernel_rfl) rfl (Parts.cons (c:=[.slice none 0 0]) (by kernel_rfl) rfl Parts.nil) rfl ?_
    intro b105 w106 hS107
    have hS110:=hS107.nilrow none 95 4
    obtain ⟨g111,hp112⟩:=ite_some hp95
    have hS113:=hS110.pick15
    refine r_appendRR (c:=p33_21) (i:=6) (d:=(some 83)) (ty:=38) (u:=93) (t:=38) (t2:=38) (s:=(.tmp 81)) (x:=(.tmp 82)) (xv:=.slice (some ⟨b105,0,none⟩) 1 1) (info:=infoOf Try.prog 93) (z:=zeroOf Try.prog 93) (bytes:=24) (A:=y31) (cp:=y32) (Al:=none) (cl:=0) (ts:=y20) (tl:=([] : List weirref14_Move)) hS113 (by kernel_rfl) (by kernel_rfl) (by kernel_rfl) (by kernel_rfl) (by kernel_rfl) (.inl (by kernel_rfl)) (by kernel_rfl) (by kernel_rfl) (by kernel_rfl) (by kernel_rfl) (by kernel_rfl) (src_hd (hS113.row 2 rfl)) g111 (by omega) ?_
    intro A114 c115 w116 hS117
    refine sR 2 [.inRegion (opsOf p33_21) [9],.code p33_22] ?_
    have hS119:=hS117.pick2
    refine rS 38 (.tmp 85) (.tmp 83) 2 (.slice A114 (y20 ++ [([] : List weirref14_Move)]).length c115) [.slice A114 (y20 ++ [([] : List weirref14_Move)]).length c115] [.slice A81 (y18 ++ ([a3] : List ByteArray)).length c82,.slice A96 (y19 ++ ([a4] : List Int)).length c97,.slice A114 (y20 ++ [([] : List weirref14_Move)]).length c115,.slice y34 y21.length y35,.slice y36 y22.length y37,.slice y38 y23.length y39,.slice y40 y24.length y41,.bool y25,.map (some y42)] hS119 ?_
    intro w120 hS121
    refine sR 7 [iR p33_23 4 7,.code p33_24] ?_
    refine rL1 23 (.tmp 89) 3 (hS121.blk 0 rfl) ?_
    refine sR 1 [iR p33_23 6 5,.code p33_24] ?_
    refine r_lit (c:=p33_23) (i:=6) (d:=(some 92)) (ty:=23) (t:=23) (e:=4) (sz:=1) (n:=1) (parts:=#[(0,(.tmp 91))]) (vs:=[(0,.bool t47)]) (z:=zeroOf Try.prog 4) (cs':=([t47] : List Bool).flatMap encB) hS121 (by kernel_rfl) (by kernel_rfl) (by kernel_rfl) (by kernel_rfl) (by kernel_rfl) (by decide) (by decide) (by kernel_rfl) rfl (Parts.cons (c:=[.bool t47]) (by kernel_rfl) rfl Parts.nil) rfl ?_
    intro b123 w124 hS125
    have hS126:=hS125.pick16
    obtain ⟨g127,hp128⟩:=ite_some hp112
    refine r_append (c:=p33_23) (i:=7) (d:=(some 93)) (ty:=23) (enc:=encB) (e:=4) (u:=4) (t:=23) (t2:=23) (sz:=1) (cp:=y35) (A:=y34) (bytes:=1) (xs:=y21) (ys:=([t47] : List Bool)) (s:=(.tmp 90)) (x:=(.tmp 92)) (xv:=.slice (some ⟨b123,0,none⟩) ([t47] : List Bool).length 1) (info:=infoOf Try.prog 4) (z:=zeroOf Try.prog 4) (ycs:=([t47] : List Bool).flatMap encB) hS126 (by kernel_rfl) (by kernel_rfl) (by kernel_rfl) (by kernel_rfl) (by kernel_rfl) (.inl (by kernel_rfl)) (by kernel_rfl) (by kernel_rfl) (by kernel_rfl) (by kernel_rfl) (by kernel_rfl) (by omega) len_encB one_encB (src_row (hS126.row 1 rfl) (by omega) len_encB) rfl g127 (by omega) ?_
    intro A129 c130 w131 hS132
    refine sR 2 [.inRegion (opsOf p33_23) [10],.code p33_24] ?_
    have hS134:=hS132.pick2
    refine rS 23 (.tmp 95) (.tmp 93) 3 (.slice A129 (y21 ++ ([t47] : List Bool)).length c130) [.slice A129 (y21 ++ ([t47] : List Bool)).length c130] [.slice A81 (y18 ++ ([a3] : List ByteArray)).length c82,.slice A96 (y19 ++ ([a4] : List Int)).length c97,.slice A114 (y20 ++ [([] : List weirref14_Move)]).length c115,.slice A129 (y21 ++ ([t47] : List Bool)).length c130,.slice y36 y22.length y37,.slice y38 y23.length y39,.slice y40 y24.length y41,.bool y25,.map (some y42)] hS134 ?_
    intro w135 hS136
    refine sR 2 [.code p33_25,.code (cd33 [1,1,1,1,1,1,1,1,1,1,1])] ?_
    have hS137:=hS136.pick17
    have hS138:=hS137.pick11
    have hS139:=hS138.pick2
    generalize hg141 : (xrow A129 c130 4 1 ((y21 ++ ([t47] : List Bool)).flatMap encB)::xrow (some ⟨b123,0,none⟩) 1 4 1 (([t47] : List Bool).flatMap encB)::xrr A114 c115 93 (upd y33 y20.length (none,0)) 95 4 enc_weirref14_Move (y20 ++ [([] : List weirref14_Move)])::xrow (some ⟨b105,0,none⟩) 1 93 1 (([(none,0,0)] : List Hd3).flatMap encH)::xrow A96 c97 3 1 ((y19 ++ ([a4] : List Int)).flatMap (encI .i64))::xrow (some ⟨b90,0,none⟩) 1 3 1 (([a4] : List Int).flatMap (encI .i64))::xrow A81 c82 9 1 ((y18 ++ ([a3] : List ByteArray)).flatMap encS)::xrow (some ⟨b75,0,none⟩) 1 9 1 (([a3] : List ByteArray).flatMap encS)::xmap y42 ((mput a0v_8m a3 (y18.length : Int)).map (kv Value.string (Value.int .i64)))::xblk ba1_1c0 33 ([.pointer (some ⟨ba1_1c0v,0,none⟩)])::xblk ba1_1c0v 49 ([.map (some ba1_1c0vv_0),.map (some ba1_1c0vv_1),.map (some ba1_1c0vv_2),.bool t48])::xmap ba1_1c0vv_0 (a1_1c0vv_0m.map (kv Value.string (Value.int .i64)))::xmap ba1_1c0vv_1 (t49.map (kv Value.string (Value.int .i64)))::xmap ba1_1c0vv_2 (a1_1c0vv_2m.map (kv Value.string (Value.int .i64)))::xblk ba1_1c1 26 ([.slice Aa1_1c1v_0 a1_1c1v.Next.length ca1_1c1v_0,.slice Aa1_1c1v_1 a1_1c1v.End.length ca1_1c1v_1,.slice Aa1_1c1v_2 a1_1c1v.Value.length ca1_1c1v_2,.int .i64 a1_1c1v.Start])::xrow y38 y39 3 1 (y23.flatMap (encI .i64))::xrow y40 y41 88 3 (y24.flatMap enc_api_Pick)::xblk b1 32 ([.string y26,.func (.func 28) #[] #[.pointer (some ⟨ba1_1c0,0,none⟩),.pointer (some ⟨ba1_1c1,0,none⟩)],.func (.func 31) #[] #[.pointer (some ⟨ba1_1c1,0,none⟩),.pointer (some ⟨ba1_1c0,0,none⟩)],.func (.func 32) #[] #[.pointer (some ⟨ba1_1c0,0,none⟩),.pointer (some ⟨ba1_1c1,0,none⟩)]])::xblk b5 88 (enc_api_Pick a6)::fs) = gs140 at hS139
    obtain ⟨g144,hp145⟩:=ite_some hp128
    refine r_drawnG (S:=Option (Nat × Option ((Option Addr × Nat) × Option Unit))) (rank:=(fun st => match st with | none => 0 | some (b142,none) => 1 | some (b142,some (x149,none)) => 2 | some (b142,some (x149,some x150)) => 3)) (C:=(fun st w' => match st with | none => St w0 Z (xblk ba0 43 ([.slice A81 (y18 ++ ([a3] : List ByteArray)).length c82,.slice A96 (y19 ++ ([a4] : List Int)).length c97,.slice A114 (y20 ++ [([] : List weirref14_Move)]).length c115,.slice A129 (y21 ++ ([t47] : List Bool)).length c130,.slice y36 y22.length y37,.slice y38 y23.length y39,.slice y40 y24.length y41,.bool y25,.map (some y42)])::xblk b63 84 (enc_api_Final t46)::xrow y36 y37 84 49 (y22.flatMap enc_api_Final)::gs140) w' | some (b142,none) => St w0 Z (xrow (some ⟨b142,0,none⟩) 1 84 49 (([t46] : List api_Final).flatMap enc_api_Final)::xblk ba0 43 ([.slice A81 (y18 ++ ([a3] : List ByteArray)).length c82,.slice A96 (y19 ++ ([a4] : List Int)).length c97,.slice A114 (y20 ++ [([] : List weirref14_Move)]).length c115,.slice A129 (y21 ++ ([t47] : List Bool)).length c130,.slice y36 y22.length y37,.slice y38 y23.length y39,.slice y40 y24.length y41,.bool y25,.map (some y42)])::xblk b63 84 (enc_api_Final t46)::xrow y36 y37 84 49 (y22.flatMap enc_api_Final)::gs140) w' | some (b142,some (x149,none)) => St w0 Z (xrow x149.1 x149.2 84 49 ((y22 ++ ([t46] : List api_Final)).flatMap enc_api_Final)::xrow (some ⟨b142,0,none⟩) 1 84 49 (([t46] : List api_Final).flatMap enc_api_Final)::xblk ba0 43 ([.slice A81 (y18 ++ ([a3] : List ByteArray)).length c82,.slice A96 (y19 ++ ([a4] : List Int)).length c97,.slice A114 (y20 ++ [([] : List weirref14_Move)]).length c115,.slice A129 (y21 ++ ([t47] : List Bool)).length c130,.slice y36 y22.length y37,.slice y38 y23.length y39,.slice y40 y24.length y41,.bool y25,.map (some y42)])::xblk b63 84 (enc_api_Final t46)::gs140) w' | some (b142,some (x149,some x150)) => St w0 Z (xblk ba0 43 ([.slice A81 (y18 ++ ([a3] : List ByteArray)).length c82,.slice A96 (y19 ++ ([a4] : List Int)).length c97,.slice A114 (y20 ++ [([] : List weirref14_Move)]).length c115,.slice A129 (y21 ++ ([t47] : List Bool)).length c130,.slice x149.1 (y22 ++ ([t46] : List api_Final)).length x149.2,.slice y38 y23.length y39,.slice y40 y24.length y41,.bool y25,.map (some y42)])::xrow x149.1 x149.2 84 49 ((y22 ++ ([t46] : List api_Final)).flatMap enc_api_Final)::xrow (some ⟨b142,0,none⟩) 1 84 49 (([t46] : List api_Final).flatMap enc_api_Final)::xblk b63 84 (enc_api_Final t46)::gs140) w')) (v:=(fun st => match st with | none => [.pointer (some ⟨ba0,0,none⟩),.pointer (some ⟨ba0,0,none⟩),.pointer (some ⟨ba0,0,none⟩),.pointer (some ⟨ba0,4,none⟩),.slice y36 y22.length y37,.agg (enc_api_Final t46).toArray,undef,undef,undef,undef,undef] | some (b142,none) => [.pointer (some ⟨ba0,0,none⟩),.pointer (some ⟨ba0,0,none⟩),.pointer (some ⟨ba0,0,none⟩),.pointer (some ⟨ba0,4,none⟩),.slice y36 y22.length y37,.agg (enc_api_Final t46).toArray,.slice (some ⟨b142,0,none⟩) ([t46] : List api_Final).length 1,undef,undef,undef,undef] | some (b142,some (x149,none)) => [.pointer (some ⟨ba0,0,none⟩),.pointer (some ⟨ba0,0,none⟩),.pointer (some ⟨ba0,0,none⟩),.pointer (some ⟨ba0,4,none⟩),.slice y36 y22.length y37,.agg (enc_api_Final t46).toArray,.slice (some ⟨b142,0,none⟩) ([t46] : List api_Final).length 1,.slice x149.1 (y22 ++ ([t46] : List api_Final)).length x149.2,.pointer (some ⟨ba0,0,none⟩),.pointer (some ⟨ba0,4,none⟩),undef] | some (b142,some (x149,some x150)) => [.pointer (some ⟨ba0,0,none⟩),.pointer (some ⟨ba0,0,none⟩),.pointer (some ⟨ba0,0,none⟩),.pointer (some ⟨ba0,4,none⟩),.slice y36 y22.length y37,.agg (enc_api_Final t46).toArray,.slice (some ⟨b142,0,none⟩) ([t46] : List api_Final).length 1,.slice x149.1 (y22 ++ ([t46] : List api_Final)).length x149.2,.pointer (some ⟨ba0,0,none⟩),.pointer (some ⟨ba0,4,none⟩),undef])) (c:=p33_25) (id:=13) none 10 11 [6,7,10] [0,0,0,0,0,0,0,1,2,2,2] [2,2,2,2,1,0,1,2,3,2,3] [] (by kernel_rfl) (by kernel_rfl) (by kernel_rfl) (by kernel_rfl) (by kernel_rfl) (by kernel_rfl) (by kernel_rfl) (by kernel_rfl) (by kernel_rfl) (by kernel_rfl) rfl hS139.drew ?_ ?_ ?_ ?_
    ·intro st w hC
     rcases st with _ | ⟨b142,_ | ⟨x149,_ | x150⟩⟩
     ·exact nbl rfl
     ·exact nbl rfl
     ·exact nbl rfl
     ·exact nbl rfl
    ·intro i hi he st w hC hr hu
     match i,hi,he with
     | 0,_,_ =>
      rcases st with _ | ⟨b142,_ | ⟨x149,_ | x150⟩⟩
      ·dsimp only at hC
       exact dP (.pointer (some ⟨ba0,0,none⟩)) hC
      ·dsimp only at hC
       exact dP (.pointer (some ⟨ba0,0,none⟩)) hC
      ·dsimp only at hC
       exact dP (.pointer (some ⟨ba0,0,none⟩)) hC
      ·exact absurd hu (nle rfl)
     | 1,_,_ =>
      rcases st with _ | ⟨b142,_ | ⟨x149,_ | x150⟩⟩
      ·dsimp only at hC
       exact dP (.pointer (some ⟨ba0,0,none⟩)) hC
      ·dsimp only at hC
       exact dP (.pointer (some ⟨ba0,0,none⟩)) hC
      ·dsimp only at hC
       exact dP (.pointer (some ⟨ba0,0,none⟩)) hC
      ·exact absurd hu (nle rfl)
     | 2,_,_ =>
      rcases st with _ | ⟨b142,_ | ⟨x149,_ | x150⟩⟩
      ·dsimp only at hC
       exact dP (.pointer (some ⟨ba0,0,none⟩)) hC
      ·dsimp only at hC
       exact dP (.pointer (some ⟨ba0,0,none⟩)) hC
      ·dsimp only at hC
       exact dP (.pointer (some ⟨ba0,0,none⟩)) hC
      ·exact absurd hu (nle rfl)
     | 3,_,_ =>
      rcases st with _ | ⟨b142,_ | ⟨x149,_ | x150⟩⟩
      ·dsimp only at hC
       exact dP (.pointer (some ⟨ba0,4,none⟩)) hC
      ·dsimp only at hC
       exact dP (.pointer (some ⟨ba0,4,none⟩)) hC
      ·dsimp only at hC
       exact dP (.pointer (some ⟨ba0,4,none⟩)) hC
      ·exact absurd hu (nle rfl)
     | 4,_,_ =>
      rcases st with _ | ⟨b142,_ | ⟨x149,_ | x150⟩⟩
      ·dsimp only at hC
       exact does_run (x_load (t:=39) (x:=(.tmp 99)) (p:=⟨ba0,4,none⟩) (v:=.slice y36 y22.length y37) (by kernel_rfl) (loads_at 4 (hC.blk 0 rfl) (by kernel_rfl) (by kernel_rfl)) (by kernel_rfl)) rfl hC
      ·dsimp only at hC
       exact does_run (x_load (t:=39) (x:=(.tmp 99)) (p:=⟨ba0,4,none⟩) (v:=.slice y36 y22.length y37) (by kernel_rfl) (loads_at 4 (hC.blk 1 rfl) (by kernel_rfl) (by kernel_rfl)) (by kernel_rfl)) rfl hC
      ·exact absurd hu (nle rfl)
      ·exact absurd hu (nle rfl)
     | 5,_,_ =>
      rcases st with _ | ⟨b142,_ | ⟨x149,_ | x150⟩⟩
      ·dsimp only at hC
       exact does_run (x_load (t:=84) (x:=(.tmp 17)) (p:=⟨b63,0,none⟩) (v:=.agg (enc_api_Final t46).toArray) (by kernel_rfl) (loads_agg (hC.blk 1 rfl) (by kernel_rfl) (lenK (len_api_Final _) (by kernel_rfl))) (by kernel_rfl)) rfl hC
      ·exact absurd hu (nle rfl)
      ·exact absurd hu (nle rfl)
      ·exact absurd hu (nle rfl)
     | 6,_,he => exact absurd he (by decide)
     | 7,_,he => exact absurd he (by decide)
     | 8,_,_ =>
      rcases st with _ | ⟨b142,_ | ⟨x149,_ | x150⟩⟩
      ·exact absurd hr (nle rfl)
      ·exact absurd hr (nle rfl)
      ·dsimp only at hC
       exact dP (.pointer (some ⟨ba0,0,none⟩)) hC
      ·dsimp only at hC
       exact dP (.pointer (some ⟨ba0,0,none⟩)) hC
     | 9,_,_ =>
      rcases st with _ | ⟨b142,_ | ⟨x149,_ | x150⟩⟩
      ·exact absurd hr (nle rfl)
      ·exact absurd hr (nle rfl)
      ·dsimp only at hC
       exact dP (.pointer (some ⟨ba0,4,none⟩)) hC
      ·exact absurd hu (nle rfl)
     | 10,_,he => exact absurd he (by decide)
     | i + 11,hi,_ => exact absurd hi (by omega)
    ·intro k hk st w hC hr
     match k,hk with
     | 0,_ =>
      rcases st with _ | ⟨b142,_ | ⟨x149,_ | x150⟩⟩
      ·dsimp only at hC
       refine does_lit (t:=39) (e:=84) (sz:=49) (n:=1) (parts:=#[(0,(.tmp 101))]) (vs:=[(0,.agg (enc_api_Final t46).toArray)]) (z:=zeroOf Try.prog 84) (cs':=([t46] : List api_Final).flatMap enc_api_Final) hC (by kernel_rfl) (by kernel_rfl) (by kernel_rfl) (by kernel_rfl) (by decide) (by decide) (by kernel_rfl) rfl (Parts.cons (c:=enc_api_Final t46) (by kernel_rfl) (len_api_Final _) Parts.nil) rfl ?_
       intro b142 w2 h2
       refine ⟨some (b142,none),rfl,?_,.inr rfl,h2⟩
       intro j hj
       match j,hj with
       | 0,_ => exact rfl
       | 1,_ => exact rfl
       | 2,_ => exact rfl
       | 3,_ => exact rfl
       | 4,_ => exact rfl
       | 5,_ => exact rfl
       | 6,hj => exact absurd hj (by decide)
       | 7,hj => exact absurd hj (by decide)
       | 8,hj => exact absurd hj (by decide)
       | 9,hj => exact absurd hj (by decide)
       | 10,hj => exact absurd hj (by decide)
       | j + 11,_ => exact rfl
      ·exact absurd hr (Nat.ne_of_beq_eq_false rfl)
      ·exact absurd hr (Nat.ne_of_beq_eq_false rfl)
      ·exact absurd hr (Nat.ne_of_beq_eq_false rfl)
     | 1,_ =>
      rcases st with _ | ⟨b142,_ | ⟨x149,_ | x150⟩⟩
      ·exact absurd hr (Nat.ne_of_beq_eq_false rfl)
      ·dsimp only at hC
       have hC:=hC.pick3
       refine does_append (enc:=enc_api_Final) (e:=84) (u:=84) (t:=39) (t2:=39) (sz:=49) (cp:=y37) (A:=y36) (bytes:=392) (xs:=y22) (ys:=([t46] : List api_Final)) (s:=(.tmp 100)) (x:=(.tmp 102)) (xv:=.slice (some ⟨b142,0,none⟩) ([t46] : List api_Final).length 1) (info:=infoOf Try.prog 84) (z:=zeroOf Try.prog 84) (ycs:=([t46] : List api_Final).flatMap enc_api_Final) hC (by kernel_rfl) (by kernel_rfl) (by kernel_rfl) (by kernel_rfl) (.inl (by kernel_rfl)) (by kernel_rfl) (by kernel_rfl) (by kernel_rfl) (by kernel_rfl) (by kernel_rfl) (by omega) len_api_Final one_api_Final (src_row (hC.row 1 rfl) (by omega) len_api_Final) rfl g144 (by omega) ?_
       intro A146 c147 w2 h2
       refine ⟨some (b142,some ((A146,c147),none)),rfl,?_,.inr rfl,h2⟩
       intro j hj
       match j,hj with
       | 0,_ => exact rfl
       | 1,_ => exact rfl
       | 2,_ => exact rfl
       | 3,_ => exact rfl
       | 4,_ => exact rfl
       | 5,_ => exact rfl
       | 6,_ => exact rfl
       | 7,hj => exact absurd hj (by decide)
       | 8,hj => exact absurd hj (by decide)
       | 9,hj => exact absurd hj (by decide)
       | 10,hj => exact absurd hj (by decide)
       | j + 11,_ => exact rfl
      ·exact absurd hr (Nat.ne_of_beq_eq_false rfl)
      ·exact absurd hr (Nat.ne_of_beq_eq_false rfl)
     | 2,_ =>
      rcases st with _ | ⟨b142,_ | ⟨x149,_ | x150⟩⟩
      ·exact absurd hr (Nat.ne_of_beq_eq_false rfl)
      ·exact absurd hr (Nat.ne_of_beq_eq_false rfl)
      ·dsimp only at hC
       have hC:=hC.pick2
       refine dS 39 (.tmp 105) (.tmp 103) 4 (.slice x149.1 (y22 ++ ([t46] : List api_Final)).length x149.2) [.slice x149.1 (y22 ++ ([t46] : List api_Final)).length x149.2] [.slice A81 (y18 ++ ([a3] : List ByteArray)).length c82,.slice A96 (y19 ++ ([a4] : List Int)).length c97,.slice A114 (y20 ++ [([] : List weirref14_Move)]).length c115,.slice A129 (y21 ++ ([t47] : List Bool)).length c130,.slice x149.1 (y22 ++ ([t46] : List api_Final)).length x149.2,.slice y38 y23.length y39,.slice y40 y24.length y41,.bool y25,.map (some y42)] hC ?_
       intro w2 h2
       refine ⟨some (b142,some (x149,some ())),rfl,?_,.inl rfl,h2⟩
       intro j hj
       match j,hj with
       | 0,_ => exact rfl
       | 1,_ => exact rfl
       | 2,_ => exact rfl
       | 3,_ => exact rfl
       | 4,_ => exact rfl
       | 5,_ => exact rfl
       | 6,_ => exact rfl
       | 7,_ => exact rfl
       | 8,_ => exact rfl
       | 9,_ => exact rfl
       | 10,hj => exact absurd hj (by decide)
       | j + 11,_ => exact rfl
      ·exact absurd hr (Nat.ne_of_beq_eq_false rfl)
     | k + 3,hk => exact absurd hk (by simp)
    intro st154 w151 hS152 hr153
    rcases st154 with _ | ⟨b142,_ | ⟨x149,_ | x150⟩⟩
    ·exact absurd hr153 (nle rfl)
    ·exact absurd hr153 (nle rfl)
    ·exact absurd hr153 (nle rfl)
    replace hS152 : St w0 Z (xblk ba0 43 ([.slice A81 (y18 ++ ([a3] : List ByteArray)).length c82,.slice A96 (y19 ++ ([a4] : List Int)).length c97,.slice A114 (y20 ++ [([] : List weirref14_Move)]).length c115,.slice A129 (y21 ++ ([t47] : List Bool)).length c130,.slice x149.1 (y22 ++ ([t46] : List api_Final)).length x149.2,.slice y38 y23.length y39,.slice y40 y24.length y41,.bool y25,.map (some y42)])::xrow x149.1 x149.2 84 49 ((y22 ++ ([t46] : List api_Final)).flatMap enc_api_Final)::xrow (some ⟨b142,0,none⟩) 1 84 49 (([t46] : List api_Final).flatMap enc_api_Final)::xblk b63 84 (enc_api_Final t46)::gs140) w151:=hS152
    subst hg141
    refine sR 6 [iR p33_27 4 7,.code p33_28] ?_
    refine rL1 37 (.tmp 109) 5 (hS152.blk 0 rfl) ?_
    refine sR 1 [iR p33_27 6 5,.code p33_28] ?_
    refine r_lit (c:=p33_27) (i:=6) (d:=(some 112)) (ty:=37) (t:=37) (e:=3) (sz:=1) (n:=1) (parts:=#[(0,(.tmp 111))]) (vs:=[(0,.int .i64 a5)]) (z:=zeroOf Try.prog 3) (cs':=([a5] : List Int).flatMap (encI .i64)) hS152 (by kernel_rfl) (by kernel_rfl) (by kernel_rfl) (by kernel_rfl) (by kernel_rfl) (by decide) (by decide) (by kernel_rfl) rfl (Parts.cons (c:=[.int .i64 a5]) (by kernel_rfl) rfl Parts.nil) rfl ?_
    intro b156 w157 hS158
    have hS159:=hS158.pick20
    obtain ⟨g160,hp161⟩:=ite_some hp145
    refine r_append (c:=p33_27) (i:=7) (d:=(some 113)) (ty:=37) (enc:=(encI .i64)) (e:=3) (u:=3) (t:=37) (t2:=37) (sz:=1) (cp:=y39) (A:=y38) (bytes:=8) (xs:=y23) (ys:=([a5] : List Int)) (s:=(.tmp 110)) (x:=(.tmp 112)) (xv:=.slice (some ⟨b156,0,none⟩) ([a5] : List Int).length 1) (info:=infoOf Try.prog 3) (z:=zeroOf Try.prog 3) (ycs:=([a5] : List Int).flatMap (encI .i64)) hS159 (by kernel_rfl) (by kernel_rfl) (by kernel_rfl) (by kernel_rfl) (by kernel_rfl) (.inl (by kernel_rfl)) (by kernel_rfl) (by kernel_rfl) (by kernel_rfl) (by kernel_rfl) (by kernel_rfl) (by omega) (len_encI .i64) (one_encI .i64) (src_row (hS159.row 1 rfl) (by omega) (len_encI .i64)) rfl g160 (by omega) ?_
    intro A162 c163 w164 hS165
    refine sR 2 [.inRegion (opsOf p33_27) [10],.code p33_28] ?_
    have hS167:=hS165.pick2
    refine rS 37 (.tmp 115) (.tmp 113) 5 (.slice A162 (y23 ++ ([a5] : List Int)).length c163) [.slice A162 (y23 ++ ([a5] : List Int)).length c163] [.slice A81 (y18 ++ ([a3] : List ByteArray)).length c82,.slice A96 (y19 ++ ([a4] : List Int)).length c97,.slice A114 (y20 ++ [([] : List weirref14_Move)]).length c115,.slice A129 (y21 ++ ([t47] : List Bool)).length c130,.slice x149.1 (y22 ++ ([t46] : List api_Final)).length x149.2,.slice A162 (y23 ++ ([a5] : List Int)).length c163,.slice y40 y24.length y41,.bool y25,.map (some y42)] hS167 ?_
    intro w168 hS169
    refine sR 2 [.code p33_29,.code (cd33 [1,1,1,1,1,1,1,1,1,1,1,1,1])] ?_
    have hS170:=hS169.pick23
    have hS171:=hS170.pick22
    have hS172:=hS171.pick2
    generalize hg174 : (xrow A162 c163 3 1 ((y23 ++ ([a5] : List Int)).flatMap (encI .i64))::xrow (some ⟨b156,0,none⟩) 1 3 1 (([a5] : List Int).flatMap (encI .i64))::xrow x149.1 x149.2 84 49 ((y22 ++ ([t46] : List api_Final)).flatMap enc_api_Final)::xrow (some ⟨b142,0,none⟩) 1 84 49 (([t46] : List api_Final).flatMap enc_api_Final)::xblk b63 84 (enc_api_Final t46)::xrow A129 c130 4 1 ((y21 ++ ([t47] : List Bool)).flatMap encB)::xrow (some ⟨b123,0,none⟩) 1 4 1 (([t47] : List Bool).flatMap encB)::xrr A114 c115 93 (upd y33 y20.length (none,0)) 95 4 enc_weirref14_Move (y20 ++ [([] : List weirref14_Move)])::xrow (some ⟨b105,0,none⟩) 1 93 1 (([(none,0,0)] : List Hd3).flatMap encH)::xrow A96 c97 3 1 ((y19 ++ ([a4] : List Int)).flatMap (encI .i64))::xrow (some ⟨b90,0,none⟩) 1 3 1 (([a4] : List Int).flatMap (encI .i64))::xrow A81 c82 9 1 ((y18 ++ ([a3] : List ByteArray)).flatMap encS)::xrow (some ⟨b75,0,none⟩) 1 9 1 (([a3] : List ByteArray).flatMap encS)::xmap y42 ((mput a0v_8m a3 (y18.length : Int)).map (kv Value.string (Value.int .i64)))::xblk ba1_1c0 33 ([.pointer (some ⟨ba1_1c0v,0,none⟩)])::xblk ba1_1c0v 49 ([.map (some ba1_1c0vv_0),.map (some ba1_1c0vv_1),.map (some ba1_1c0vv_2),.bool t48])::xmap ba1_1c0vv_0 (a1_1c0vv_0m.map (kv Value.string (Value.int .i64)))::xmap ba1_1c0vv_1 (t49.map (kv Value.string (Value.int .i64)))::xmap ba1_1c0vv_2 (a1_1c0vv_2m.map (kv Value.string (Value.int .i64)))::xblk ba1_1c1 26 ([.slice Aa1_1c1v_0 a1_1c1v.Next.length ca1_1c1v_0,.slice Aa1_1c1v_1 a1_1c1v.End.length ca1_1c1v_1,.slice Aa1_1c1v_2 a1_1c1v.Value.length ca1_1c1v_2,.int .i64 a1_1c1v.Start])::xblk b1 32 ([.string y26,.func (.func 28) #[] #[.pointer (some ⟨ba1_1c0,0,none⟩),.pointer (some ⟨ba1_1c1,0,none⟩)],.func (.func 31) #[] #[.pointer (some ⟨ba1_1c1,0,none⟩),.pointer (some ⟨ba1_1c0,0,none⟩)],.func (.func 32) #[] #[.pointer (some ⟨ba1_1c0,0,none⟩),.pointer (some ⟨ba1_1c1,0,none⟩)]])::fs) = gs173 at hS172
    obtain ⟨g177,hp178⟩:=ite_some hp161
    refine r_drawnG (S:=Option (Nat × Option ((Option Addr × Nat) × Option Unit))) (rank:=(fun st => match st with | none => 0 | some (b175,none) => 1 | some (b175,some (x182,none)) => 2 | some (b175,some (x182,some x183)) => 3)) (C:=(fun st w' => match st with | none => St w0 Z (xblk ba0 43 ([.slice A81 (y18 ++ ([a3] : List ByteArray)).length c82,.slice A96 (y19 ++ ([a4] : List Int)).length c97,.slice A114 (y20 ++ [([] : List weirref14_Move)]).length c115,.slice A129 (y21 ++ ([t47] : List Bool)).length c130,.slice x149.1 (y22 ++ ([t46] : List api_Final)).length x149.2,.slice A162 (y23 ++ ([a5] : List Int)).length c163,.slice y40 y24.length y41,.bool y25,.map (some y42)])::xrow y40 y41 88 3 (y24.flatMap enc_api_Pick)::xblk b5 88 (enc_api_Pick a6)::gs173) w' | some (b175,none) => St w0 Z (xrow (some ⟨b175,0,none⟩) 1 88 3 (([a6] : List api_Pick).flatMap enc_api_Pick)::xblk ba0 43 ([.slice A81 (y18 ++ ([a3] : List ByteArray)).length c82,.slice A96 (y19 ++ ([a4] : List Int)).length c97,.slice A114 (y20 ++ [([] : List weirref14_Move)]).length c115,.slice A129 (y21 ++ ([t47] : List Bool)).length c130,.slice x149.1 (y22 ++ ([t46] : List api_Final)).length x149.2,.slice A162 (y23 ++ ([a5] : List Int)).length c163,.slice y40 y24.length y41,.bool y25,.map (some y42)])::xrow y40 y41 88 3 (y24.flatMap enc_api_Pick)::xblk b5 88 (enc_api_Pick a6)::gs173) w' | some (b175,some (x182,none)) => St w0 Z (xrow x182.1 x182.2 88 3 ((y24 ++ ([a6] : List api_Pick)).flatMap enc_api_Pick)::xrow (some ⟨b175,0,none⟩) 1 88 3 (([a6] : List api_Pick).flatMap enc_api_Pick)::xblk ba0 43 ([.slice A81 (y18 ++ ([a3] : List ByteArray)).length c82,.slice A96 (y19 ++ ([a4] : List Int)).length c97,.slice A114 (y20 ++ [([] : List weirref14_Move)]).length c115,.slice A129 (y21 ++ ([t47] : List Bool)).length c130,.slice x149.1 (y22 ++ ([t46] : List api_Final)).length x149.2,.slice A162 (y23 ++ ([a5] : List Int)).length c163,.slice y40 y24.length y41,.bool y25,.map (some y42)])::xblk b5 88 (enc_api_Pick a6)::gs173) w' | some (b175,some (x182,some x183)) => St w0 Z (xblk ba0 43 ([.slice A81 (y18 ++ ([a3] : List ByteArray)).length c82,.slice A96 (y19 ++ ([a4] : List Int)).length c97,.slice A114 (y20 ++ [([] : List weirref14_Move)]).length c115,.slice A129 (y21 ++ ([t47] : List Bool)).length c130,.slice x149.1 (y22 ++ ([t46] : List api_Final)).length x149.2,.slice A162 (y23 ++ ([a5] : List Int)).length c163,.slice x182.1 (y24 ++ ([a6] : List api_Pick)).length x182.2,.bool y25,.map (some y42)])::xrow x182.1 x182.2 88 3 ((y24 ++ ([a6] : List api_Pick)).flatMap enc_api_Pick)::xrow (some ⟨b175,0,none⟩) 1 88 3 (([a6] : List api_Pick).flatMap enc_api_Pick)::xblk b5 88 (enc_api_Pick a6)::gs173) w')) (v:=(fun st => match st with | none => [.pointer (some ⟨ba0,0,none⟩),.pointer (some ⟨ba0,0,none⟩),.pointer (some ⟨ba0,0,none⟩),.pointer (some ⟨ba0,6,none⟩),.slice y40 y24.length y41,.agg (enc_api_Pick a6).toArray,undef,undef,undef,undef,undef] | some (b175,none) => [.pointer (some ⟨ba0,0,none⟩),.pointer (some ⟨ba0,0,none⟩),.pointer (some ⟨ba0,0,none⟩),.pointer (some ⟨ba0,6,none⟩),.slice y40 y24.length y41,.agg (enc_api_Pick a6).toArray,.slice (some ⟨b175,0,none⟩) ([a6] : List api_Pick).length 1,undef,undef,undef,undef] | some (b175,some (x182,none)) => [.pointer (some ⟨ba0,0,none⟩),.pointer (some ⟨ba0,0,none⟩),.pointer (some ⟨ba0,0,none⟩),.pointer (some ⟨ba0,6,none⟩),.slice y40 y24.length y41,.agg (enc_api_Pick a6).toArray,.slice (some ⟨b175,0,none⟩) ([a6] : List api_Pick).length 1,.slice x182.1 (y24 ++ ([a6] : List api_Pick)).length x182.2,.pointer (some ⟨ba0,0,none⟩),.pointer (some ⟨ba0,6,none⟩),undef] | some (b175,some (x182,some x183)) => [.pointer (some ⟨ba0,0,none⟩),.pointer (some ⟨ba0,0,none⟩),.pointer (some ⟨ba0,0,none⟩),.pointer (some ⟨ba0,6,none⟩),.slice y40 y24.length y41,.agg (enc_api_Pick a6).toArray,.slice (some ⟨b175,0,none⟩) ([a6] : List api_Pick).length 1,.slice x182.1 (y24 ++ ([a6] : List api_Pick)).length x182.2,.pointer (some ⟨ba0,0,none⟩),.pointer (some ⟨ba0,6,none⟩),undef])) (c:=p33_29) (id:=15) none 10 11 [6,7,10] [0,0,0,0,0,0,0,1,2,2,2] [2,2,2,2,1,0,1,2,3,2,3] [] (by kernel_rfl) (by kernel_rfl) (by kernel_rfl) (by kernel_rfl) (by kernel_rfl) (by kernel_rfl) (by kernel_rfl) (by kernel_rfl) (by kernel_rfl) (by kernel_rfl) rfl hS172.drew ?_ ?_ ?_ ?_
    ·intro st w hC
     rcases st with _ | ⟨b175,_ | ⟨x182,_ | x183⟩⟩
     ·exact nbl rfl
     ·exact nbl rfl
     ·exact nbl rfl
     ·exact nbl rfl
    ·intro i hi he st w hC hr hu
     match i,hi,he with
     | 0,_,_ =>
      rcases st with _ | ⟨b175,_ | ⟨x182,_ | x183⟩⟩
      ·dsimp only at hC
       exact dP (.pointer (some ⟨ba0,0,none⟩)) hC
      ·dsimp only at hC
       exact dP (.pointer (some ⟨ba0,0,none⟩)) hC
      ·dsimp only at hC
       exact dP (.pointer (some ⟨ba0,0,none⟩)) hC
      ·exact absurd hu (nle rfl)
     | 1,_,_ =>
      rcases st with _ | ⟨b175,_ | ⟨x182,_ | x183⟩⟩
      ·dsimp only at hC
       exact dP (.pointer (some ⟨ba0,0,none⟩)) hC
      ·dsimp only at hC
       exact dP (.pointer (some ⟨ba0,0,none⟩)) hC
      ·dsimp only at hC
       exact dP (.pointer (some ⟨ba0,0,none⟩)) hC
      ·exact absurd hu (nle rfl)
     | 2,_,_ =>
      rcases st with _ | ⟨b175,_ | ⟨x182,_ | x183⟩⟩
      ·dsimp only at hC
       exact dP (.pointer (some ⟨ba0,0,none⟩)) hC
      ·dsimp only at hC
       exact dP (.pointer (some ⟨ba0,0,none⟩)) hC
      ·dsimp only at hC
       exact dP (.pointer (some ⟨ba0,0,none⟩)) hC
      ·exact absurd hu (nle rfl)
     | 3,_,_ =>
      rcases st with _ | ⟨b175,_ | ⟨x182,_ | x183⟩⟩
      ·dsimp only at hC
       exact dP (.pointer (some ⟨ba0,6,none⟩)) hC
      ·dsimp only at hC
       exact dP (.pointer (some ⟨ba0,6,none⟩)) hC
      ·dsimp only at hC
       exact dP (.pointer (some ⟨ba0,6,none⟩)) hC
      ·exact absurd hu (nle rfl)
     | 4,_,_ =>
      rcases st with _ | ⟨b175,_ | ⟨x182,_ | x183⟩⟩
      ·dsimp only at hC
       exact does_run (x_load (t:=40) (x:=(.tmp 119)) (p:=⟨ba0,6,none⟩) (v:=.slice y40 y24.length y41) (by kernel_rfl) (loads_at 6 (hC.blk 0 rfl) (by kernel_rfl) (by kernel_rfl)) (by kernel_rfl)) rfl hC
      ·dsimp only at hC
       exact does_run (x_load (t:=40) (x:=(.tmp 119)) (p:=⟨ba0,6,none⟩) (v:=.slice y40 y24.length y41) (by kernel_rfl) (loads_at 6 (hC.blk 1 rfl) (by kernel_rfl) (by kernel_rfl)) (by kernel_rfl)) rfl hC
      ·exact absurd hu (nle rfl)
      ·exact absurd hu (nle rfl)
     | 5,_,_ =>
      rcases st with _ | ⟨b175,_ | ⟨x182,_ | x183⟩⟩
      ·dsimp only at hC
       exact does_run (x_load (t:=88) (x:=(.tmp 13)) (p:=⟨b5,0,none⟩) (v:=.agg (enc_api_Pick a6).toArray) (by kernel_rfl) (loads_agg (hC.blk 2 rfl) (by kernel_rfl) (by kernel_rfl)) (by kernel_rfl)) rfl hC
      ·exact absurd hu (nle rfl)
      ·exact absurd hu (nle rfl)
      ·exact absurd hu (nle rfl)
     | 6,_,he => exact absurd he (by decide)
     | 7,_,he => exact absurd he (by decide)
     | 8,_,_ =>
      rcases st with _ | ⟨b175,_ | ⟨x182,_ | x183⟩⟩
      ·exact absurd hr (nle rfl)
      ·exact absurd hr (nle rfl)
      ·dsimp only at hC
       exact dP (.pointer (some ⟨ba0,0,none⟩)) hC
      ·dsimp only at hC
       exact dP (.pointer (some ⟨ba0,0,none⟩)) hC
     | 9,_,_ =>
      rcases st with _ | ⟨b175,_ | ⟨x182,_ | x183⟩⟩
      ·exact absurd hr (nle rfl)
      ·exact absurd hr (nle rfl)
      ·dsimp only at hC
       exact dP (.pointer (some ⟨ba0,6,none⟩)) hC
      ·exact absurd hu (nle rfl)
     | 10,_,he => exact absurd he (by decide)
     | i + 11,hi,_ => exact absurd hi (by omega)
    ·intro k hk st w hC hr
     match k,hk with
     | 0,_ =>
      rcases st with _ | ⟨b175,_ | ⟨x182,_ | x183⟩⟩
      ·dsimp only at hC
       refine does_lit (t:=40) (e:=88) (sz:=3) (n:=1) (parts:=#[(0,(.tmp 121))]) (vs:=[(0,.agg (enc_api_Pick a6).toArray)]) (z:=zeroOf Try.prog 88) (cs':=([a6] : List api_Pick).flatMap enc_api_Pick) hC (by kernel_rfl) (by kernel_rfl) (by kernel_rfl) (by kernel_rfl) (by decide) (by decide) (by kernel_rfl) rfl (Parts.cons (c:=enc_api_Pick a6) (by kernel_rfl) (len_api_Pick _) Parts.nil) rfl ?_
       intro b175 w2 h2
       refine ⟨some (b175,none),rfl,?_,.inr rfl,h2⟩
       intro j hj
       match j,hj with
       | 0,_ => exact rfl
       | 1,_ => exact rfl
       | 2,_ => exact rfl
       | 3,_ => exact rfl
       | 4,_ => exact rfl
       | 5,_ => exact rfl
       | 6,hj => exact absurd hj (by decide)
       | 7,hj => exact absurd hj (by decide)
       | 8,hj => exact absurd hj (by decide)
       | 9,hj => exact absurd hj (by decide)
       | 10,hj => exact absurd hj (by decide)
       | j + 11,_ => exact rfl
      ·exact absurd hr (Nat.ne_of_beq_eq_false rfl)
      ·exact absurd hr (Nat.ne_of_beq_eq_false rfl)
      ·exact absurd hr (Nat.ne_of_beq_eq_false rfl)
     | 1,_ =>
      rcases st with _ | ⟨b175,_ | ⟨x182,_ | x183⟩⟩
      ·exact absurd hr (Nat.ne_of_beq_eq_false rfl)
      ·dsimp only at hC
       have hC:=hC.pick2
       refine does_append (enc:=enc_api_Pick) (e:=88) (u:=88) (t:=40) (t2:=40) (sz:=3) (cp:=y41) (A:=y40) (bytes:=24) (xs:=y24) (ys:=([a6] : List api_Pick)) (s:=(.tmp 120)) (x:=(.tmp 122)) (xv:=.slice (some ⟨b175,0,none⟩) ([a6] : List api_Pick).length 1) (info:=infoOf Try.prog 88) (z:=zeroOf Try.prog 88) (ycs:=([a6] : List api_Pick).flatMap enc_api_Pick) hC (by kernel_rfl) (by kernel_rfl) (by kernel_rfl) (by kernel_rfl) (.inl (by kernel_rfl)) (by kernel_rfl) (by kernel_rfl) (by kernel_rfl) (by kernel_rfl) (by kernel_rfl) (by omega) len_api_Pick one_api_Pick (src_row (hC.row 1 rfl) (by omega) len_api_Pick) rfl g177 (by omega) ?_
       intro A179 c180 w2 h2
       refine ⟨some (b175,some ((A179,c180),none)),rfl,?_,.inr rfl,h2⟩
       intro j hj
       match j,hj with
       | 0,_ => exact rfl
       | 1,_ => exact rfl
       | 2,_ => exact rfl
       | 3,_ => exact rfl
       | 4,_ => exact rfl
       | 5,_ => exact rfl
       | 6,_ => exact rfl
       | 7,hj => exact absurd hj (by decide)
       | 8,hj => exact absurd hj (by decide)
       | 9,hj => exact absurd hj (by decide)
       | 10,hj => exact absurd hj (by decide)
       | j + 11,_ => exact rfl
      ·exact absurd hr (Nat.ne_of_beq_eq_false rfl)
      ·exact absurd hr (Nat.ne_of_beq_eq_false rfl)
     | 2,_ =>
      rcases st with _ | ⟨b175,_ | ⟨x182,_ | x183⟩⟩
      ·exact absurd hr (Nat.ne_of_beq_eq_false rfl)
      ·exact absurd hr (Nat.ne_of_beq_eq_false rfl)
      ·dsimp only at hC
       have hC:=hC.pick2
       refine dS 40 (.tmp 125) (.tmp 123) 6 (.slice x182.1 (y24 ++ ([a6] : List api_Pick)).length x182.2) [.slice x182.1 (y24 ++ ([a6] : List api_Pick)).length x182.2] [.slice A81 (y18 ++ ([a3] : List ByteArray)).length c82,.slice A96 (y19 ++ ([a4] : List Int)).length c97,.slice A114 (y20 ++ [([] : List weirref14_Move)]).length c115,.slice A129 (y21 ++ ([t47] : List Bool)).length c130,.slice x149.1 (y22 ++ ([t46] : List api_Final)).length x149.2,.slice A162 (y23 ++ ([a5] : List Int)).length c163,.slice x182.1 (y24 ++ ([a6] : List api_Pick)).length x182.2,.bool y25,.map (some y42)] hC ?_
       intro w2 h2
       refine ⟨some (b175,some (x182,some ())),rfl,?_,.inl rfl,h2⟩
       intro j hj
       match j,hj with
       | 0,_ => exact rfl
       | 1,_ => exact rfl
       | 2,_ => exact rfl
       | 3,_ => exact rfl
       | 4,_ => exact rfl
       | 5,_ => exact rfl
       | 6,_ => exact rfl
       | 7,_ => exact rfl
       | 8,_ => exact rfl
       | 9,_ => exact rfl
       | 10,hj => exact absurd hj (by decide)
       | j + 11,_ => exact rfl
      ·exact absurd hr (Nat.ne_of_beq_eq_false rfl)
     | k + 3,hk => exact absurd hk (by simp)
    intro st187 w184 hS185 hr186
    rcases st187 with _ | ⟨b175,_ | ⟨x182,_ | x183⟩⟩
    ·exact absurd hr186 (nle rfl)
    ·exact absurd hr186 (nle rfl)
    ·exact absurd hr186 (nle rfl)
    replace hS185 : St w0 Z (xblk ba0 43 ([.slice A81 (y18 ++ ([a3] : List ByteArray)).length c82,.slice A96 (y19 ++ ([a4] : List Int)).length c97,.slice A114 (y20 ++ [([] : List weirref14_Move)]).length c115,.slice A129 (y21 ++ ([t47] : List Bool)).length c130,.slice x149.1 (y22 ++ ([t46] : List api_Final)).length x149.2,.slice A162 (y23 ++ ([a5] : List Int)).length c163,.slice x182.1 (y24 ++ ([a6] : List api_Pick)).length x182.2,.bool y25,.map (some y42)])::xrow x182.1 x182.2 88 3 ((y24 ++ ([a6] : List api_Pick)).flatMap enc_api_Pick)::xrow (some ⟨b175,0,none⟩) 1 88 3 (([a6] : List api_Pick).flatMap enc_api_Pick)::xblk b5 88 (enc_api_Pick a6)::gs173) w184:=hS185
    subst hg174
    refine sR 5 [iR (cd33 [1,1,1,1,1,1,1,1,1,1,1,1,1,0]) 3 4,.code p33_32] ?_
    refine rL1 36 (.tmp 128) 0 (hS185.blk 0 rfl) ?_
    refine sR 4 [.code p33_32] ?_
    refine r_isret (c:=p33_32) (by kernel_rfl) ?_
    have hS188:=hS185.pick2
    have hS189:=hS188.drop
    have hS190:=hS189.pick2
    have hS191:=hS190.drop
    have hS192:=hS191.pick3
    have hS193:=hS192.drop
    have hS194:=hS193.pick4
    have hS195:=hS194.drop
    have hS196:=hS195.pick4
    have hS197:=hS196.drop
    have hS198:=hS197.pick5
    have hS199:=hS198.drop
    have hS200:=hS199.pick6
    have hS201:=hS200.drop
    have hS202:=hS201.pick7
    have hS203:=hS202.drop
    have hS204:=hS203.pick8
    have hS205:=hS204.drop
    have hS206:=hS205.pick15
    have hS207:=hS206.drop
    have hS208:=hS207.pick14
    have hS209:=hS208.pick14
    have hS210:=hS209.pick14
    have hS211:=hS210.pick14
    have hS212:=hS211.pick14
    have hS213:=hS212.pick14
    have hS214:=hS213.pick14
    have hS215:=hS214.pick7
    have hS216:=hS215.pick8
    have hS217:=hS216.pick9
    have hS218:=hS217.pick10
    have hS219:=hS218.pick11
    have hS220:=hS219.pick12
    have hS221:=hS220.pick13
    have hS222:=hS221.pick14
    refine rR (.int .i64 (IntKind.i64.wrap (((y18 ++ ([a3] : List ByteArray)).length : Int) - 1))) Try.func33 ?_
    cases Option.some.inj hp178
    exact hR _ _ ⟨A81,c82,A96,c97,A114,c115,((upd y33 y20.length (none,0))),A129,c130,x149.1,x149.2,A162,c163,x182.1,x182.2,rfl,hS222⟩
   have hp224:=ite_t hp11 rfl
   refine sR 6 [.code (cd33 [1,1,0,1,0,1]),.code (cd33 [1,1,1])] ?_
   have hS225:=hS15.pick9
   have hS226:=hS225.drop
   have hS227:=hS226.pick15
   have hS228:=hS227.drop
   have hS229:=hS228.pick14
   have hS230:=hS229.pick14
   have hS231:=hS230.pick14
   have hS232:=hS231.pick14
   have hS233:=hS232.pick14
   have hS234:=hS233.pick14
   have hS235:=hS234.pick14
   have hS236:=hS235.pick7
   have hS237:=hS236.pick14
   have hS238:=hS237.pick14
   have hS239:=hS238.pick14
   have hS240:=hS239.pick14
   have hS241:=hS240.pick14
   have hS242:=hS241.pick14
   have hS243:=hS242.pick14
   refine rR (.int .i64 t12) Try.func33 ?_
   cases Option.some.inj hp224
   exact hR _ _ ⟨y27,y28,y29,y30,y31,y32,(y33),y34,y35,y36,y37,y38,y39,y40,y41,rfl,hS243⟩
  refine sI 3 [.inRegion (opsOf (cd33 [1,0])) [9,10],.code (cd33 [1,1])] 27 hv10 (fun hp247 => ?_) fun hp264 => ?_
  ·refine sR 5 td19 ?_
   have hS248:=hS7.pick16
   have hS249:=hS248.pick16
   have hS250:=hS249.pick16
   have hS251:=hS250.pick16
   have hS252:=hS251.pick16
   have hS253:=hS252.pick16
   have hS254:=hS253.pick7
   have hS255:=hS254.pick16
   have hS256:=hS255.pick16
   have hS257:=hS256.pick16
   have hS258:=hS257.pick16
   have hS259:=hS258.pick16
   have hS260:=hS259.pick16
   have hS261:=hS260.pick16
   have hS262:=hS261.pick16
   have hS263:=hS262.pick16
   exact rF _ (J16 ((mget a0v_8m a3).getD (0 : Int)) true (Option.some.inj hp247) _ _ hS263)
  refine sR 5 td19 ?_
  have hS265:=hS7.pick16
  have hS266:=hS265.pick16
  have hS267:=hS266.pick16
  have hS268:=hS267.pick16
  have hS269:=hS268.pick16
  have hS270:=hS269.pick16
  have hS271:=hS270.pick7
  have hS272:=hS271.pick16
  have hS273:=hS272.pick16
  have hS274:=hS273.pick16
  have hS275:=hS274.pick16
  have hS276:=hS275.pick16
  have hS277:=hS276.pick16
  have hS278:=hS277.pick16
  have hS279:=hS278.pick16
  have hS280:=hS279.pick16
  exact rF _ (J16 ((mget a0v_8m a3).getD (0 : Int)) false (Option.some.inj hp264) _ _ hS280)

noncomputable def cd30 (p : List Nat) : Code := sub (bodyOf Try.f30) p
def weirlaw14_pick.f (a0 a1 : Int) : Option api_Pick :=
  some ((⟨a0,(IntKind.i64.wrap ((a1.tmod 3) + 1)),a1⟩ : api_Pick))
theorem weirlaw14_pick.ok {a0 a1 : Int} {q0 : api_Pick} (hp0 : weirlaw14_pick.f a0 a1 = some q0) (hS0 : St w0 Z (fs) w) :
    Calls Try.prog 30 #[.int .i64 a0,.int .i64 a1] w (fun e w' => e = .returned (.agg (enc_api_Pick q0).toArray) ∧ St w0 Z (fs) w'):=by
  refine calls_abs ?_; intro R hR
  unfold weirlaw14_pick.f at hp0
  refine calls_of_runs (fn:=Try.f30) (c:=cd30 []) Try.func30 (by kernel_rfl) (al:=[.int .i64 a0,.int .i64 a1]) rfl (n:=9) rfl ?_
  refine sR 2 [.inRegion (opsOf (cd30 [0])) [0],.code (cd30 [1])] ?_
  refine rA 88 (.agg (enc_api_Pick (⟨0,0,0⟩ : api_Pick)).toArray) (enc_api_Pick (⟨0,0,0⟩ : api_Pick)) hS0 ?_
  intro b1 w2 hS3
  refine sR 9 [.inRegion (opsOf (cd30 [1,0])) [6],.code (cd30 [1,1])] ?_
  refine rSA 88 (.tmp 4) (.tmp 10) (enc_api_Pick (⟨a0,(IntKind.i64.wrap ((a1.tmod 3) + 1)),a1⟩ : api_Pick)) hS3 (one_api_Pick _) ?_
  intro w5 hS6
  refine sR 1 [.code (cd30 [1,1])] ?_
  have hS7:=hS6.drop
  refine rRc (.agg (enc_api_Pick (⟨a0,(IntKind.i64.wrap ((a1.tmod 3) + 1)),a1⟩ : api_Pick)).toArray) (.ca 4 88 (hS6.blk 0 rfl) .nil) Try.func30 ?_
  cases Option.some.inj hp0
  exact hR _ _ ⟨rfl,hS7⟩

noncomputable def cd28 (p : List Nat) : Code := sub (bodyOf Try.f28) p
abbrev p28_0:=cd28 [1,0]
abbrev p28_1:=cd28 [1,1]
abbrev p28_4:=cd28 [1,1,1,0,0]
abbrev p28_11:=cd28 [1,1,1,1,1,0]
abbrev p28_12:=cd28 [1,1,1,1,1,1]
abbrev p28_13:=cd28 [1,1,1,1,1,1,0,1,0,0]
abbrev p28_19:=cd28 [1,1,1,1,1,1,0,1,0,0,1,0,0]
abbrev td20:List Item:=[.code (cd28 [1,1,1,1])]
abbrev td21:List Item:=.code (cd28 [1,1,1,0,1])::td20
abbrev td22:List Item:=[.code (cd28 [1,1,1,1,1,1,1])]
abbrev td23:List Item:=.inBlock 0::td22
abbrev td24:List Item:=.inLoop p28_13::td23
abbrev td25:List Item:=.code p28_13::td24
def weirlaw14_Net__machine_1.l0 (t4 t70 : Int) (t71 : List api_Pick) : Option (List api_Pick) :=
  (if (decide (t70 < (t71.length : Int))) = true then (weirlaw14_pick.f t4 t70 >>= (fun t84 => (if 0 ≤ t70 ∧ t70 < (t71.length : Int) then (weirlaw14_Net__machine_1.l0 t4 (IntKind.i64.wrap (t70 + 1)) (setl t71 t70 t84)) else none))) else some (t71))
 partial_fixpoint
def weirlaw14_Net__machine_1.f (a0 : ByteArray) (a1vv_0m a1vv_1m a1vv_2m : List (ByteArray × Int)) (a1vv_3 : Bool) (a2v : weirlaw14_Net) : Option ((List api_Pick) × Bool × (List (ByteArray × Int))) :=
  (weirlaw14_Net__number.f a2v a0 >>= (fun t4 => (((if (decide (((mget (mput a1vv_0m a0 (IntKind.i64.wrap (((mget a1vv_0m a0).getD (0 : Int)) + 1))) a0).getD (0 : Int)) > 1)) = true then some (true) else (if (decide (t4 < 0)) = true then some (true) else some (false))) : Option Bool) >>= (fun t12 => (((if t12 = true then some (true) else some (a1vv_3)) : Option Bool) >>= (fun t21 => (if (decide (t4 < 0)) = true then some (([],t21,(mput a1vv_0m a0 (IntKind.i64.wrap (((mget a1vv_0m a0).getD (0 : Int)) + 1))))) else (if 0 ≤ t4 ∧ t4 < (a2v.Next.length : Int) then (if 0 ≤ ((gt a2v.Next t4).length : Int) ∧ ((gt a2v.Next t4).length : Int) * 24 ≤ 140737488355328 then (weirlaw14_Net__machine_1.l0 t4 0 (List.replicate ((gt a2v.Next t4).length : Int).toNat (⟨0,0,0⟩ : api_Pick)) >>= (fun t63 => some ((t63,t21,(mput a1vv_0m a0 (IntKind.i64.wrap (((mget a1vv_0m a0).getD (0 : Int)) + 1))))))) else none) else none))))))))
theorem weirlaw14_Net__machine_1.ok {a0 : ByteArray} {a1vv_0m a1vv_1m a1vv_2m : List (ByteArray × Int)} {a1vv_3 : Bool} {a2v : weirlaw14_Net} {ba1 ba1v : Nat} {ba1vv_0 ba1vv_1 : Nat} {ba1vv_2 ba2 : Nat} {y9 : Option Addr} {y10 : Nat} {y11 : Option Addr} {y12 : Nat} {y13 : Option Addr} {y14 : Nat} {q0 : List api_Pick} {q1 : Bool} {q2 : List (ByteArray × Int)} (hp0 : weirlaw14_Net__machine_1.f a0 a1vv_0m a1vv_1m a1vv_2m a1vv_3 a2v = some (q0,q1,q2)) (hS0 : St w0 Z (xblk ba1 33 ([.pointer (some ⟨ba1v,0,none⟩)])::xblk ba1v 49 ([.map (some ba1vv_0),.map (some ba1vv_1),.map (some ba1vv_2),.bool a1vv_3])::xmap ba1vv_0 (a1vv_0m.map (kv Value.string (Value.int .i64)))::xmap ba1vv_1 (a1vv_1m.map (kv Value.string (Value.int .i64)))::xmap ba1vv_2 (a1vv_2m.map (kv Value.string (Value.int .i64)))::xblk ba2 26 ([.slice y9 a2v.Next.length y10,.slice y11 a2v.End.length y12,.slice y13 a2v.Value.length y14,.int .i64 a2v.Start])::fs) w) (y15 : SlZ (repL (flat (encI .i64)) 1) 1 Z y9 y10 a2v.Next) (y16 : SlZ (flat encB) 1 Z y11 y12 a2v.End) (y17 : SlZ (flat (encI .i64)) 1 Z y13 y14 a2v.Value) :
    Calls Try.prog 28 #[.string a0,.pointer (some ⟨ba1,0,none⟩),.pointer (some ⟨ba2,0,none⟩)] w (fun e w' => ∃ (QA0 : Option Addr) (Qc0 : Nat),e = .returned (.slice QA0 q0.length Qc0) ∧ St w0 Z (xrow QA0 Qc0 88 3 (q0.flatMap enc_api_Pick)::xblk ba1 33 ([.pointer (some ⟨ba1v,0,none⟩)])::xblk ba1v 49 ([.map (some ba1vv_0),.map (some ba1vv_1),.map (some ba1vv_2),.bool q1])::xmap ba1vv_0 (q2.map (kv Value.string (Value.int .i64)))::xmap ba1vv_1 (a1vv_1m.map (kv Value.string (Value.int .i64)))::xmap ba1vv_2 (a1vv_2m.map (kv Value.string (Value.int .i64)))::xblk ba2 26 ([.slice y9 a2v.Next.length y10,.slice y11 a2v.End.length y12,.slice y13 a2v.Value.length y14,.int .i64 a2v.Start])::fs) w'):=by
  refine calls_abs ?_; intro R hR
  unfold weirlaw14_Net__machine_1.f at hp0
  refine calls_of_runs (fn:=Try.f28) (c:=cd28 []) Try.func28 (by kernel_rfl) (al:=[.string a0,.pointer (some ⟨ba1,0,none⟩),.pointer (some ⟨ba2,0,none⟩)]) rfl (n:=51) rfl ?_
  refine sR 6 [iR p28_0 0 8,.code p28_1] ?_
  refine rL1 33 (.tmp 1) 0 (hS0.blk 0 rfl) ?_
  refine sR 2 [iR p28_0 3 5,.code p28_1] ?_
  refine rL1 41 (.tmp 10) 0 (hS0.blk 1 rfl) ?_
  refine sR 1 [.inRegion (opsOf p28_0) [5,6,7],.code p28_1] ?_
  refine rV (.lookup 41 (.tmp 11) (.tmp 12) false) (.int .i64 ((mget a1vv_0m a0).getD (0 : Int))) (fun o ho _ => x_lookup1 (eK:=Value.string) (eV:=(Value.int .i64)) (dk:=.string) (b:=ba1vv_0) (t:=41) (kt:=9) (et:=3) (m:=a1vv_0m) (kk:=a0) (z:=(0 : Int)) (hS0.at 2 rfl) key_str (by kernel_rfl) (by kernel_rfl) (by kernel_rfl) (by kernel_rfl) (by kernel_rfl) ho) ?_
  refine sR 1 [.inRegion (opsOf p28_0) [7],.code p28_1] ?_
  have hS1:=hS0.pick2
  refine r_mapUpdate (c:=p28_0) (i:=7) (d:=none) (ty:=0) (eK:=Value.string) (eV:=(Value.int .i64)) (dk:=.string) (b:=ba1vv_0) (t:=41) (kt:=9) (et:=3) (x:=(.tmp 11)) (y:=(.tmp 12)) (z:=(.tmp 14)) (m:=a1vv_0m) (kk:=a0) (v:=(IntKind.i64.wrap (((mget a1vv_0m a0).getD (0 : Int)) + 1))) hS1 (by kernel_rfl) (by kernel_rfl) key_str (by kernel_rfl) (by kernel_rfl) (by kernel_rfl) (by kernel_rfl) (by kernel_rfl) ?_
  intro w2 hS3
  refine sR 3 [iR (cd28 [1,1,0]) 0 4,.code (cd28 [1,1,1])] ?_
  refine rLa 26 (.tmp 2) (hS3.blk 5 rfl) ?_
  refine sR 1 [.inRegion (opsOf (cd28 [1,1,0])) [2,3],.code (cd28 [1,1,1])] ?_
  obtain ⟨t4,hr5,hp6⟩:=bind_some' hp0
  refine rC (weirlaw14_Net__number.ok hr5 hS3 y15 y16 y17) ?_
  rintro _ w7 ⟨rfl,hS8⟩
  refine ⟨_,rfl,?_⟩
  refine sR 4 (.code p28_4::td21) ?_
  obtain ⟨v9,hv10,hp11⟩:=bind_some' hp6
  have J15 : ∀ (t12 : Bool) (he17 : t12 = v9) (l16 : List Value) (w13 : World) (hS14 : St w0 Z (xblk ba1 33 ([.pointer (some ⟨ba1v,0,none⟩)])::xblk ba1v 49 ([.map (some ba1vv_0),.map (some ba1vv_1),.map (some ba1vv_2),.bool a1vv_3])::xmap ba1vv_0 ((mput a1vv_0m a0 (IntKind.i64.wrap (((mget a1vv_0m a0).getD (0 : Int)) + 1))).map (kv Value.string (Value.int .i64)))::xmap ba1vv_1 (a1vv_1m.map (kv Value.string (Value.int .i64)))::xmap ba1vv_2 (a1vv_2m.map (kv Value.string (Value.int .i64)))::xblk ba2 26 ([.slice y9 a2v.Next.length y10,.slice y11 a2v.End.length y12,.slice y13 a2v.Value.length y14,.int .i64 a2v.Start])::fs) w13),Runs Try.prog (fx 28) td21 (fill (mk 54 [(1,.pointer (some ⟨ba1,0,none⟩)),(2,.pointer (some ⟨ba2,0,none⟩)),(5,.int .i64 t4),(28,.bool t12)]) l16) w13 R:=by
   intro t12 he17 l16 w13 hS14
   subst he17
   try dsimp only at hp11
   obtain ⟨v18,hv19,hp20⟩:=bind_some' hp11
   have J24 : ∀ (t21 : Bool) (he26 : t21 = v18) (l25 : List Value) (w22 : World) (hS23 : St w0 Z (xblk ba2 26 ([.slice y9 a2v.Next.length y10,.slice y11 a2v.End.length y12,.slice y13 a2v.Value.length y14,.int .i64 a2v.Start])::xblk ba1 33 ([.pointer (some ⟨ba1v,0,none⟩)])::xblk ba1v 49 ([.map (some ba1vv_0),.map (some ba1vv_1),.map (some ba1vv_2),.bool t21])::xmap ba1vv_0 ((mput a1vv_0m a0 (IntKind.i64.wrap (((mget a1vv_0m a0).getD (0 : Int)) + 1))).map (kv Value.string (Value.int .i64)))::xmap ba1vv_1 (a1vv_1m.map (kv Value.string (Value.int .i64)))::xmap ba1vv_2 (a1vv_2m.map (kv Value.string (Value.int .i64)))::fs) w22),Runs Try.prog (fx 28) td20 (fill (mk 54 [(2,.pointer (some ⟨ba2,0,none⟩)),(5,.int .i64 t4)]) l25) w22 R:=by
    intro t21 he26 l25 w22 hS23
    subst he26
    try dsimp only at hp20
    refine sI 5 [.inRegion (opsOf (cd28 [1,1,1,1,0,0])) [],.code (cd28 [1,1,1,1,0,1]),.code (cd28 [1,1,1,1,1])] 33 hp20 (fun hp29 => ?_) fun hp40 => ?_
    ·refine sR 6 [.code (cd28 [1,1,1,1,0,1,0,1]),.code (cd28 [1,1,1,1,1])] ?_
     have hS31:=hS23.nilrow none 88 3
     have hS32:=hS31.pick1
     have hS33:=hS32.pick6
     have hS34:=hS33.pick6
     have hS35:=hS34.pick6
     have hS36:=hS35.pick6
     have hS37:=hS36.pick6
     have hS38:=hS37.pick6
     refine rR (.slice none 0 0) Try.func28 ?_
     cases Option.some.inj hp29
     exact hR _ _ ⟨none,0,rfl,hS38⟩
    refine sR 6 [iR p28_11 1 7,.code p28_12] ?_
    refine rL1 22 (.tmp 34) 0 (hS23.blk 0 rfl) ?_
    refine sR 1 [iR p28_11 3 5,.code p28_12] ?_
    obtain ⟨g41,hp42⟩:=ite_some hp40
    obtain ⟨b43,p44,cs47,hA45,hr48,hl49,hc46⟩:=y15.at_ g41.1 g41.2
    obtain ⟨A50,c51,rfl,hs52⟩:=hr48
    refine r_indexAddr (c:=p28_11) (i:=3) (d:=(some 37)) (ty:=0) (t:=22) (e:=37) (n:=a2v.Next.length) (cp:=y10) (sz:=1) (kk:=.i64) (x:=(.tmp 35)) (y:=(.tmp 36)) (b:=b43) (o':=p44) (j:=t4) (by kernel_rfl) (by kernel_rfl) (slv (by kernel_rfl) hA45) (by kernel_rfl) (by kernel_rfl) (by kernel_rfl) g41.1 g41.2 ?_
    refine rL1 37 (.tmp 37) 0 (hc46.cells hS23) ?_
    refine sR 1 [.inRegion (opsOf p28_11) [6,7],.code p28_12] ?_
    obtain ⟨g54,hp55⟩:=ite_some hp42
    refine r_make (c:=p28_11) (i:=6) (d:=(some 40)) (ty:=40) (enc:=enc_api_Pick) (t:=40) (e:=88) (sz:=3) (bytes:=24) (info:=infoOf Try.prog 88) (x:=(.tmp 39)) (y:=(.tmp 39)) (n:=((gt a2v.Next t4).length : Int)) (kk:=.i64) (kc:=.i64) (z:=.agg (enc_api_Pick (⟨0,0,0⟩ : api_Pick)).toArray) (x0:=(⟨0,0,0⟩ : api_Pick)) hS23 (by kernel_rfl) (by kernel_rfl) (by kernel_rfl) (by kernel_rfl) (by kernel_rfl) (by kernel_rfl) (by kernel_rfl) (by kernel_rfl) (by kernel_rfl) (by kernel_rfl) len_api_Pick (by omega) g54 (by omega) ?_
    intro A56 w57 hS58
    refine rF [none,none,none,none,none,none,none,none,none,none,none,none,none,none,none,none,none,none,none,none,none,none,none,none,none,none,none,none,none,none,none,none,none,none,none,none,none,none,none,none,some (.slice A56 ((gt a2v.Next t4).length : Int).toNat ((gt a2v.Next t4).length : Int).toNat),none,none,none,none,none,none,none,none,none,none,none,none,none] ?_
    refine Runs.refill (m':=[none,none,none,none,none,none,none,none,none,none,none,none,none,none,none,none,none,none,none,none,none,none,none,none,none,none,none,none,none,none,none,none,none,none,none,none,none,none,none,none,some (.slice A56 (List.replicate ((gt a2v.Next t4).length : Int).toNat (⟨0,0,0⟩ : api_Pick)).length (((gt a2v.Next t4).length : Int).toNat)),none,none,none,none,none,none,none,none,none,none,none,none,none]) (by simp only [List.length_replicate]) ?_
    refine sR 9 td25 ?_
    obtain ⟨v60,hv61,hp62⟩:=bind_some' hp55
    have J66 : ∀ (t63 : List api_Pick) (he68 : t63 = v60) (l67 : List Value) (w64 : World) (hS65 : St w0 Z (xrow A56 (((gt a2v.Next t4).length : Int).toNat) 88 3 (t63.flatMap enc_api_Pick)::xblk ba1 33 ([.pointer (some ⟨ba1v,0,none⟩)])::xblk ba1v 49 ([.map (some ba1vv_0),.map (some ba1vv_1),.map (some ba1vv_2),.bool t21])::xmap ba1vv_0 ((mput a1vv_0m a0 (IntKind.i64.wrap (((mget a1vv_0m a0).getD (0 : Int)) + 1))).map (kv Value.string (Value.int .i64)))::xmap ba1vv_1 (a1vv_1m.map (kv Value.string (Value.int .i64)))::xmap ba1vv_2 (a1vv_2m.map (kv Value.string (Value.int .i64)))::xblk ba2 26 ([.slice y9 a2v.Next.length y10,.slice y11 a2v.End.length y12,.slice y13 a2v.Value.length y14,.int .i64 a2v.Start])::fs) w64),Runs Try.prog (fx 28) td22 (fill (mk 54 [(6,.slice A56 t63.length (((gt a2v.Next t4).length : Int).toNat))]) l67) w64 R:=by
     intro t63 he68 l67 w64 hS65
     subst he68
     try dsimp only at hp62
     refine sR 5 [.code (cd28 [1,1,1,1,1,1,1,1])] ?_
     refine rR (.slice A56 t63.length (((gt a2v.Next t4).length : Int).toNat)) Try.func28 ?_
     cases Option.some.inj hp62
     exact hR _ _ ⟨A56,((gt a2v.Next t4).length : Int).toNat,rfl,hS65⟩
    have L80 : ∀ (t70 : Int) (t71 : List api_Pick) (e75 : (List api_Pick)),weirlaw14_Net__machine_1.l0 t4 t70 t71 = some e75 → e75 = v60 → ∀ (l74 : List Value) (w72 : World) (hS73 : St w0 Z (xrow A56 (((gt a2v.Next t4).length : Int).toNat) 88 3 (t71.flatMap enc_api_Pick)::xblk ba1 33 ([.pointer (some ⟨ba1v,0,none⟩)])::xblk ba1v 49 ([.map (some ba1vv_0),.map (some ba1vv_1),.map (some ba1vv_2),.bool t21])::xmap ba1vv_0 ((mput a1vv_0m a0 (IntKind.i64.wrap (((mget a1vv_0m a0).getD (0 : Int)) + 1))).map (kv Value.string (Value.int .i64)))::xmap ba1vv_1 (a1vv_1m.map (kv Value.string (Value.int .i64)))::xmap ba1vv_2 (a1vv_2m.map (kv Value.string (Value.int .i64)))::xblk ba2 26 ([.slice y9 a2v.Next.length y10,.slice y11 a2v.End.length y12,.slice y13 a2v.Value.length y14,.int .i64 a2v.Start])::fs) w72),Runs Try.prog (fx 28) td25 (fill (mk 54 [(5,.int .i64 t4),(6,.slice A56 t71.length (((gt a2v.Next t4).length : Int).toNat)),(7,.int .i64 t70)]) l74) w72 R:=by
     refine weirlaw14_Net__machine_1.l0.partial_correctness t4 (fun t70 t71 e75 => e75 = v60 → ∀ (l74 : List Value) (w72 : World) (hS73 : St w0 Z (xrow A56 (((gt a2v.Next t4).length : Int).toNat) 88 3 (t71.flatMap enc_api_Pick)::xblk ba1 33 ([.pointer (some ⟨ba1v,0,none⟩)])::xblk ba1v 49 ([.map (some ba1vv_0),.map (some ba1vv_1),.map (some ba1vv_2),.bool t21])::xmap ba1vv_0 ((mput a1vv_0m a0 (IntKind.i64.wrap (((mget a1vv_0m a0).getD (0 : Int)) + 1))).map (kv Value.string (Value.int .i64)))::xmap ba1vv_1 (a1vv_1m.map (kv Value.string (Value.int .i64)))::xmap ba1vv_2 (a1vv_2m.map (kv Value.string (Value.int .i64)))::xblk ba2 26 ([.slice y9 a2v.Next.length y10,.slice y11 a2v.End.length y12,.slice y13 a2v.Value.length y14,.int .i64 a2v.Start])::fs) w72),Runs Try.prog (fx 28) td25 (fill (mk 54 [(5,.int .i64 t4),(6,.slice A56 t71.length (((gt a2v.Next t4).length : Int).toNat)),(7,.int .i64 t70)]) l74) w72 R) ?_
     intro rec79 ih78 t70 t71 e75 hb77 he76 l74 w72 hS73
     refine sI 7 (.inRegion (opsOf (cd28 [1,1,1,1,1,1,0,1,0,0,0,0])) []::.code (cd28 [1,1,1,1,1,1,0,1,0,0,0,1])::.code (cd28 [1,1,1,1,1,1,0,1,0,0,1])::td24) 44 hb77 (fun hp83 => ?_) fun hp97 => ?_
     ·refine sR 10 (.inRegion (opsOf p28_19) [4,5,6]::.inBlock 1::.code (cd28 [1,1,1,1,1,1,0,1,0,0,1,1])::td24) ?_
      obtain ⟨t84,hr85,hp86⟩:=bind_some' hp83
      refine rC (weirlaw14_pick.ok hr85 hS73) ?_
      rintro _ w87 ⟨rfl,hS88⟩
      refine ⟨_,rfl,?_⟩
      obtain ⟨g89,hp90⟩:=ite_some hp86
      obtain ⟨b91,p92,hA93,-⟩:=(hS88.row 0 rfl).at_ len_api_Pick (by omega) g89.1 g89.2
      refine r_indexAddr (c:=p28_19) (i:=5) (d:=(some 52)) (ty:=0) (t:=40) (e:=88) (n:=t71.length) (cp:=((gt a2v.Next t4).length : Int).toNat) (sz:=3) (kk:=.i64) (x:=(.tmp 47)) (y:=(.tmp 48)) (b:=b91) (o':=p92) (j:=t70) (by kernel_rfl) (by kernel_rfl) (slv (by kernel_rfl) hA93) (by kernel_rfl) (by kernel_rfl) (by kernel_rfl) g89.1 g89.2 ?_
      refine r_storeEl (c:=p28_19) (i:=6) (d:=none) (ty:=0) (enc:=enc_api_Pick) (e:=88) (t:=88) (sz:=3) (cp:=((gt a2v.Next t4).length : Int).toNat) (A:=A56) (xs:=t71) (x:=(.tmp 52)) (y:=(.tmp 51)) (el:=gt t71 t70) (el':=t84) (j:=t70) (off:=0) (b:=b91) (p:=p92) (v:=.agg (enc_api_Pick t84).toArray) (vs:=enc_api_Pick t84) (ad:=⟨b91,p92 + t70.toNat * 3,none⟩) hS88 (by kernel_rfl) (by kernel_rfl) (by kernel_rfl) (by simp) (by kernel_rfl) hA93 g89 rfl len_api_Pick (by kernel_rfl) (by kernel_rfl) (one_api_Pick _) (by rw [len_api_Pick]; omega) (by rw [len_api_Pick]; omega) (by kernel_rfl) ?_
      intro w95 hS96
      refine rF [none,none,none,none,none,none,some (.slice A56 t71.length (((gt a2v.Next t4).length : Int).toNat)),none,none,none,none,none,none,none,none,none,none,none,none,none,none,none,none,none,none,none,none,none,none,none,none,none,none,none,none,none,none,none,none,none,none,none,some (.slice A56 t71.length (((gt a2v.Next t4).length : Int).toNat)),none,none,none,none,some (.slice A56 t71.length (((gt a2v.Next t4).length : Int).toNat)),none,none,none,none,none,none] ?_
      refine Runs.refill (m':=[none,none,none,none,none,none,some (.slice A56 (setl t71 t70 t84).length (((gt a2v.Next t4).length : Int).toNat)),none,none,none,none,none,none,none,none,none,none,none,none,none,none,none,none,none,none,none,none,none,none,none,none,none,none,none,none,none,none,none,none,none,none,none,some (.slice A56 (setl t71 t70 t84).length (((gt a2v.Next t4).length : Int).toNat)),none,none,none,none,some (.slice A56 (setl t71 t70 t84).length (((gt a2v.Next t4).length : Int).toNat)),none,none,none,none,none,none]) (by simp only [setl_len]) ?_
      refine sR 7 td24 ?_
      refine sR 1 td25 ?_
      exact rF _ (ih78 (IntKind.i64.wrap (t70 + 1)) (setl t71 t70 t84) _ hp90 he76 _ _ hS96)
     refine sR 3 td22 ?_
     exact rF _ (J66 t71 ((Option.some.inj hp97).trans he76) _ _ hS73)
    have hS98:=hS58.pick1
    have hS99:=hS98.pick6
    have hS100:=hS99.pick6
    have hS101:=hS100.pick6
    have hS102:=hS101.pick6
    have hS103:=hS102.pick6
    have hS104:=hS103.pick6
    exact rF _ (L80 0 (List.replicate ((gt a2v.Next t4).length : Int).toNat (⟨0,0,0⟩ : api_Pick)) _ hv61 rfl _ _ hS104)
   cases t12
   ·have hp105:=ite_f hv19 rfl
    refine sR 2 td20 ?_
    have hS106:=hS14.pick4
    have hS107:=hS106.pick4
    have hS108:=hS107.pick4
    have hS109:=hS108.pick4
    have hS110:=hS109.pick4
    have hS111:=hS110.pick5
    exact rF _ (J24 a1vv_3 (Option.some.inj hp105) _ _ hS111)
   have hp112:=ite_t hv19 rfl
   refine sR 2 (iR (cd28 [1,1,1,0,1,0]) 0 4::td20) ?_
   refine rL1 33 (.tmp 1) 0 (hS14.blk 0 rfl) ?_
   refine sR 2 (.inRegion (opsOf (cd28 [1,1,1,0,1,0])) [3]::td20) ?_
   have hS113:=hS14.pick1
   refine rS 4 (.tmp 31) (.const (.bool true)) 3 (.bool true) [.bool true] [.map (some ba1vv_0),.map (some ba1vv_1),.map (some ba1vv_2),.bool true] hS113 ?_
   intro w114 hS115
   refine sR 1 td20 ?_
   have hS116:=hS115.pick4
   have hS117:=hS116.pick4
   have hS118:=hS117.pick4
   have hS119:=hS118.pick3
   have hS120:=hS119.pick4
   have hS121:=hS120.pick5
   exact rF _ (J24 true (Option.some.inj hp112) _ _ hS121)
  refine sR 1 (iR p28_4 0 11::td21) ?_
  refine rL1 33 (.tmp 1) 0 (hS8.blk 1 rfl) ?_
  refine sR 2 (iR p28_4 3 8::td21) ?_
  refine rL1 41 (.tmp 20) 0 (hS8.blk 2 rfl) ?_
  refine sR 1 (iR p28_4 5 6::td21) ?_
  refine rV (.lookup 41 (.tmp 21) (.tmp 22) false) (.int .i64 ((mget (mput a1vv_0m a0 (IntKind.i64.wrap (((mget a1vv_0m a0).getD (0 : Int)) + 1))) a0).getD (0 : Int))) (fun o ho _ => x_lookup1 (eK:=Value.string) (eV:=(Value.int .i64)) (dk:=.string) (b:=ba1vv_0) (t:=41) (kt:=9) (et:=3) (m:=(mput a1vv_0m a0 (IntKind.i64.wrap (((mget a1vv_0m a0).getD (0 : Int)) + 1)))) (kk:=a0) (z:=(0 : Int)) (hS8.at 0 rfl) key_str (by kernel_rfl) (by kernel_rfl) (by kernel_rfl) (by kernel_rfl) (by kernel_rfl) ho) ?_
  refine sI 1 (iR p28_4 7 4::td21) 24 hv10 (fun hp124 => ?_) fun hp131 => ?_
  ·refine sR 5 td21 ?_
   have hS125:=hS8.pick5
   have hS126:=hS125.pick5
   have hS127:=hS126.pick5
   have hS128:=hS127.pick3
   have hS129:=hS128.pick5
   have hS130:=hS129.pick5
   exact rF _ (J15 true (Option.some.inj hp124) _ _ hS130)
  refine sI 3 (.inRegion (opsOf p28_4) [10]::td21) 27 hp131 (fun hp134 => ?_) fun hp141 => ?_
  ·refine sR 2 td21 ?_
   have hS135:=hS8.pick5
   have hS136:=hS135.pick5
   have hS137:=hS136.pick5
   have hS138:=hS137.pick3
   have hS139:=hS138.pick5
   have hS140:=hS139.pick5
   exact rF _ (J15 true (Option.some.inj hp134) _ _ hS140)
  refine sR 2 td21 ?_
  have hS142:=hS8.pick5
  have hS143:=hS142.pick5
  have hS144:=hS143.pick5
  have hS145:=hS144.pick3
  have hS146:=hS145.pick5
  have hS147:=hS146.pick5
  exact rF _ (J15 false (Option.some.inj hp141) _ _ hS147)

noncomputable def cd31 (p : List Nat) : Code := sub (bodyOf Try.f31) p
abbrev p31_4:=cd31 [1,1,0,0]
abbrev p31_6:=cd31 [1,1,1]
abbrev p31_9:=cd31 [1,1,1,1,0]
abbrev p31_10:=cd31 [1,1,1,1,1]
abbrev p31_11:=cd31 [1,1,1,1,1,0,0]
abbrev p31_14:=cd31 [1,1,1,1,1,1,0]
abbrev p31_16:=cd31 [1,1,1,1,1,1,1,0,0]
abbrev p31_18:=cd31 [1,1,1,1,1,1,1,1]
abbrev p31_19:=cd31 [1,1,1,1,1,1,1,0,1,0,1]
abbrev p31_21:=cd31 [1,1,1,1,1,1,1,1,1]
abbrev td26:List Item:=[.code (cd31 [1,1,1,1,1,1])]
abbrev td27:List Item:=.code (cd31 [1,1,1,1,1,0,1])::td26
abbrev td28:List Item:=[.code (cd31 [1,1,1,1,1,1,1,0,1]),.code p31_18]
def weirlaw14_Net__machine_2.f (a0 : ByteArray) (a1 : api_Pick) (a2v : weirlaw14_Net) (a3vv_0m a3vv_1m a3vv_2m : List (ByteArray × Int)) (a3vv_3 : Bool) : Option (ByteArray × Bool × Bool × (List (ByteArray × Int))) :=
  (weirlaw14_Net__number.f a2v a0 >>= (fun t5 => (((if (decide (t5 < 0)) = true then some (true) else (if (decide (a1.Loc < 0)) = true then some (true) else (if 0 ≤ t5 ∧ t5 < (a2v.Next.length : Int) then (if (decide (a1.Loc ≥ ((gt a2v.Next t5).length : Int))) = true then some (true) else (weirlaw14_pick.f t5 a1.Loc >>= (fun t164 => (if (!(decide (a1 = t164))) = true then some (true) else some (false))))) else none))) : Option Bool) >>= (fun t13 => (if t13 = true then some (((⟨#[]⟩ : ByteArray),false,true,a3vv_2m)) else (weirlaw14_name.f a1.Loc >>= (fun t20 => (if a0.size + t20.size ≤ 9223372036854775807 then (((if (decide (((mget (mput a3vv_2m (a0 ++ t20) (IntKind.i64.wrap (((mget a3vv_2m (a0 ++ t20)).getD (0 : Int)) + 1))) (a0 ++ t20)).getD (0 : Int)) > 1)) = true then some (true) else some (a3vv_3)) : Option Bool) >>= (fun t33 => (if 0 ≤ t5 ∧ t5 < (a2v.Next.length : Int) then (if 0 ≤ a1.Loc ∧ a1.Loc < ((gt a2v.Next t5).length : Int) then (if (decide ((gt (gt a2v.Next t5) a1.Loc) < 0)) = true then some (((⟨#[]⟩ : ByteArray),false,t33,(mput a3vv_2m (a0 ++ t20) (IntKind.i64.wrap (((mget a3vv_2m (a0 ++ t20)).getD (0 : Int)) + 1))))) else (if (decide ((gt (gt a2v.Next t5) a1.Loc) ≥ (a2v.Next.length : Int))) = true then some (((⟨#[]⟩ : ByteArray),false,t33,(mput a3vv_2m (a0 ++ t20) (IntKind.i64.wrap (((mget a3vv_2m (a0 ++ t20)).getD (0 : Int)) + 1))))) else (weirlaw14_name.f (gt (gt a2v.Next t5) a1.Loc) >>= (fun t74 => some ((t74,true,t33,(mput a3vv_2m (a0 ++ t20) (IntKind.i64.wrap (((mget a3vv_2m (a0 ++ t20)).getD (0 : Int)) + 1))))))))) else none) else none))) else none))))))))
theorem weirlaw14_Net__machine_2.ok {a0 : ByteArray} {a1 : api_Pick} {a2v : weirlaw14_Net} {a3vv_0m a3vv_1m a3vv_2m : List (ByteArray × Int)} {a3vv_3 : Bool} {ba2 : Nat} {y9 : Option Addr} {y10 : Nat} {y11 : Option Addr} {y12 : Nat} {y13 : Option Addr} {y14 ba3 : Nat} {ba3v ba3vv_0 : Nat} {ba3vv_1 ba3vv_2 : Nat} {q0 : ByteArray} {q1 q2 : Bool} {q3 : List (ByteArray × Int)} (hp0 : weirlaw14_Net__machine_2.f a0 a1 a2v a3vv_0m a3vv_1m a3vv_2m a3vv_3 = some (q0,q1,q2,q3)) (hS0 : St w0 Z (xblk ba2 26 ([.slice y9 a2v.Next.length y10,.slice y11 a2v.End.length y12,.slice y13 a2v.Value.length y14,.int .i64 a2v.Start])::xblk ba3 33 ([.pointer (some ⟨ba3v,0,none⟩)])::xblk ba3v 49 ([.map (some ba3vv_0),.map (some ba3vv_1),.map (some ba3vv_2),.bool a3vv_3])::xmap ba3vv_0 (a3vv_0m.map (kv Value.string (Value.int .i64)))::xmap ba3vv_1 (a3vv_1m.map (kv Value.string (Value.int .i64)))::xmap ba3vv_2 (a3vv_2m.map (kv Value.string (Value.int .i64)))::fs) w) (y15 : SlZ (repL (flat (encI .i64)) 1) 1 Z y9 y10 a2v.Next) (y16 : SlZ (flat encB) 1 Z y11 y12 a2v.End) (y17 : SlZ (flat (encI .i64)) 1 Z y13 y14 a2v.Value) :
    Calls Try.prog 31 #[.string a0,.agg (enc_api_Pick a1).toArray,.pointer (some ⟨ba2,0,none⟩),.pointer (some ⟨ba3,0,none⟩)] w (fun e w' => e = .returned (.tuple #[.string q0,.bool q1]) ∧ St w0 Z (xblk ba2 26 ([.slice y9 a2v.Next.length y10,.slice y11 a2v.End.length y12,.slice y13 a2v.Value.length y14,.int .i64 a2v.Start])::xblk ba3 33 ([.pointer (some ⟨ba3v,0,none⟩)])::xblk ba3v 49 ([.map (some ba3vv_0),.map (some ba3vv_1),.map (some ba3vv_2),.bool q2])::xmap ba3vv_0 (a3vv_0m.map (kv Value.string (Value.int .i64)))::xmap ba3vv_1 (a3vv_1m.map (kv Value.string (Value.int .i64)))::xmap ba3vv_2 (q3.map (kv Value.string (Value.int .i64)))::fs) w'):=by
  refine calls_abs ?_; intro R hR
  unfold weirlaw14_Net__machine_2.f at hp0
  refine calls_of_runs (fn:=Try.f31) (c:=cd31 []) Try.func31 (by kernel_rfl) (al:=[.string a0,.agg (enc_api_Pick a1).toArray,.pointer (some ⟨ba2,0,none⟩),.pointer (some ⟨ba3,0,none⟩)]) rfl (n:=81) rfl ?_
  refine sR 2 [.inRegion (opsOf (cd31 [0])) [0,1,2],.code (cd31 [1])] ?_
  refine r_box (c:=(cd31 [0])) (i:=0) (d:=(some 5)) (ty:=0) (x:=(.tmp 1)) (v:=.agg (enc_api_Pick a1).toArray) (t:=88) (cs:=enc_api_Pick a1) hS0 (by kernel_rfl) (by kernel_rfl) (by kernel_rfl) (by kernel_rfl) ?_
  intro b1 w2 hS3
  refine sR 5 [iR (cd31 [1,0]) 0 4,.code (cd31 [1,1])] ?_
  refine rLa 26 (.tmp 2) (hS3.blk 1 rfl) ?_
  refine sR 1 [.inRegion (opsOf (cd31 [1,0])) [2,3],.code (cd31 [1,1])] ?_
  obtain ⟨t5,hr6,hp7⟩:=bind_some' hp0
  refine rC (weirlaw14_Net__number.ok hr6 hS3 y15 y16 y17) ?_
  rintro _ w8 ⟨rfl,hS9⟩
  refine ⟨_,rfl,?_⟩
  refine sR 4 [.code p31_4,.code (cd31 [1,1,0,1]),.code p31_6] ?_
  obtain ⟨v10,hv11,hp12⟩:=bind_some' hp7
  have J16 : ∀ (t13 : Bool) (he18 : t13 = v10) (l17 : List Value) (w14 : World) (hS15 : St w0 Z (xblk ba2 26 ([.slice y9 a2v.Next.length y10,.slice y11 a2v.End.length y12,.slice y13 a2v.Value.length y14,.int .i64 a2v.Start])::xblk ba3 33 ([.pointer (some ⟨ba3v,0,none⟩)])::xblk ba3v 49 ([.map (some ba3vv_0),.map (some ba3vv_1),.map (some ba3vv_2),.bool a3vv_3])::xmap ba3vv_0 (a3vv_0m.map (kv Value.string (Value.int .i64)))::xmap ba3vv_1 (a3vv_1m.map (kv Value.string (Value.int .i64)))::xmap ba3vv_2 (a3vv_2m.map (kv Value.string (Value.int .i64)))::xblk b1 88 (enc_api_Pick a1)::fs) w14),Runs Try.prog (fx 31) [.code (cd31 [1,1,0,1]),.code p31_6] (fill (mk 85 [(0,.string a0),(2,.pointer (some ⟨ba2,0,none⟩)),(3,.pointer (some ⟨ba3,0,none⟩)),(5,.pointer (some ⟨b1,0,none⟩)),(8,.int .i64 t5),(39,.bool t13)]) l17) w14 R:=by
   intro t13 he18 l17 w14 hS15
   subst he18
   try dsimp only at hp12
   cases t13
   ·have hp19:=ite_f hp12 rfl
    refine sR 6 [iR (cd31 [1,1,1,0]) 2 4,.code (cd31 [1,1,1,1])] ?_
    refine rL1 3 (.tmp 44) 2 (hS15.blk 6 rfl) ?_
    obtain ⟨t20,hr21,hp22⟩:=bind_some' hp19
    refine rC (weirlaw14_name.ok hr21 hS15) ?_
    rintro _ w23 ⟨rfl,hS24⟩
    refine ⟨_,rfl,?_⟩
    obtain ⟨g25,hp26⟩:=ite_some hp22
    refine rV (.binOp .add 9 (.tmp 43) (.tmp 46) 9) (.string (a0 ++ t20)) (fun o ho _ => x_concat (by kernel_rfl) (by kernel_rfl) g25 ho) ?_
    refine sR 4 [iR p31_9 0 8,.code p31_10] ?_
    refine rL1 33 (.tmp 3) 0 (hS24.blk 1 rfl) ?_
    refine sR 2 [iR p31_9 3 5,.code p31_10] ?_
    refine rL1 41 (.tmp 50) 2 (hS24.blk 2 rfl) ?_
    refine sR 1 [.inRegion (opsOf p31_9) [5,6,7],.code p31_10] ?_
    refine rV (.lookup 41 (.tmp 51) (.tmp 52) false) (.int .i64 ((mget a3vv_2m (a0 ++ t20)).getD (0 : Int))) (fun o ho _ => x_lookup1 (eK:=Value.string) (eV:=(Value.int .i64)) (dk:=.string) (b:=ba3vv_2) (t:=41) (kt:=9) (et:=3) (m:=a3vv_2m) (kk:=(a0 ++ t20)) (z:=(0 : Int)) (hS24.at 5 rfl) key_str (by kernel_rfl) (by kernel_rfl) (by kernel_rfl) (by kernel_rfl) (by kernel_rfl) ho) ?_
    refine sR 1 [.inRegion (opsOf p31_9) [7],.code p31_10] ?_
    have hS27:=hS24.pick5
    refine r_mapUpdate (c:=p31_9) (i:=7) (d:=none) (ty:=0) (eK:=Value.string) (eV:=(Value.int .i64)) (dk:=.string) (b:=ba3vv_2) (t:=41) (kt:=9) (et:=3) (x:=(.tmp 51)) (y:=(.tmp 52)) (z:=(.tmp 54)) (m:=a3vv_2m) (kk:=(a0 ++ t20)) (v:=(IntKind.i64.wrap (((mget a3vv_2m (a0 ++ t20)).getD (0 : Int)) + 1))) hS27 (by kernel_rfl) (by kernel_rfl) key_str (by kernel_rfl) (by kernel_rfl) (by kernel_rfl) (by kernel_rfl) (by kernel_rfl) ?_
    intro w28 hS29
    refine sR 4 (iR p31_11 0 7::td27) ?_
    refine rL1 33 (.tmp 3) 0 (hS29.blk 2 rfl) ?_
    refine sR 2 (iR p31_11 3 4::td27) ?_
    refine rL1 41 (.tmp 57) 2 (hS29.blk 3 rfl) ?_
    refine sR 1 (.inRegion (opsOf p31_11) [5,6]::td27) ?_
    refine rV (.lookup 41 (.tmp 58) (.tmp 59) false) (.int .i64 ((mget (mput a3vv_2m (a0 ++ t20) (IntKind.i64.wrap (((mget a3vv_2m (a0 ++ t20)).getD (0 : Int)) + 1))) (a0 ++ t20)).getD (0 : Int))) (fun o ho _ => x_lookup1 (eK:=Value.string) (eV:=(Value.int .i64)) (dk:=.string) (b:=ba3vv_2) (t:=41) (kt:=9) (et:=3) (m:=(mput a3vv_2m (a0 ++ t20) (IntKind.i64.wrap (((mget a3vv_2m (a0 ++ t20)).getD (0 : Int)) + 1)))) (kk:=(a0 ++ t20)) (z:=(0 : Int)) (hS29.at 0 rfl) key_str (by kernel_rfl) (by kernel_rfl) (by kernel_rfl) (by kernel_rfl) (by kernel_rfl) ho) ?_
    obtain ⟨v30,hv31,hp32⟩:=bind_some' hp26
    have J36 : ∀ (t33 : Bool) (he38 : t33 = v30) (l37 : List Value) (w34 : World) (hS35 : St w0 Z (xblk ba2 26 ([.slice y9 a2v.Next.length y10,.slice y11 a2v.End.length y12,.slice y13 a2v.Value.length y14,.int .i64 a2v.Start])::xblk b1 88 (enc_api_Pick a1)::xblk ba3 33 ([.pointer (some ⟨ba3v,0,none⟩)])::xblk ba3v 49 ([.map (some ba3vv_0),.map (some ba3vv_1),.map (some ba3vv_2),.bool t33])::xmap ba3vv_0 (a3vv_0m.map (kv Value.string (Value.int .i64)))::xmap ba3vv_1 (a3vv_1m.map (kv Value.string (Value.int .i64)))::xmap ba3vv_2 ((mput a3vv_2m (a0 ++ t20) (IntKind.i64.wrap (((mget a3vv_2m (a0 ++ t20)).getD (0 : Int)) + 1))).map (kv Value.string (Value.int .i64)))::fs) w34),Runs Try.prog (fx 31) td26 (fill (mk 85 [(2,.pointer (some ⟨ba2,0,none⟩)),(5,.pointer (some ⟨b1,0,none⟩)),(8,.int .i64 t5)]) l37) w34 R:=by
     intro t33 he38 l37 w34 hS35
     subst he38
     try dsimp only at hp32
     refine sR 1 [.code p31_14,.code (cd31 [1,1,1,1,1,1,1])] ?_
     refine r_quiet hS35 (c:=p31_14) (id:=9) (by kernel_rfl) (by kernel_rfl) (by kernel_rfl) (is:=[0,1,2,3,4,5,6,7,8,9]) (by kernel_rfl) ?_
     refine qR 1 (rg 1 9) ?_
     refine qL1 22 (.tmp 65) 0 (fun w hC => (hC.blk 0 rfl)) ?_
     refine qR 1 (rg 3 7) ?_
     obtain ⟨g39,hp40⟩:=ite_some hp32
     obtain ⟨b41,p42,cs45,hA43,hr46,hl47,hc44⟩:=y15.at_ g39.1 g39.2
     obtain ⟨A48,c49,rfl,hs50⟩:=hr46
     refine q_indexAddr (c:=p31_14) (i:=3) (d:=(some 68)) (ty:=0) (t:=22) (e:=37) (n:=a2v.Next.length) (cp:=y10) (sz:=1) (kk:=.i64) (x:=(.tmp 66)) (y:=(.tmp 67)) (b:=b41) (o':=p42) (j:=t5) (by kernel_rfl) (by kernel_rfl) (slv (by kernel_rfl) hA43) (by kernel_rfl) (by kernel_rfl) (by kernel_rfl) g39.1 g39.2 ?_
     refine qL1 37 (.tmp 68) 0 (fun w hC => (hc44.cells hC)) ?_
     refine qR 1 (rg 6 4) ?_
     refine qL1 3 (.tmp 70) 2 (fun w hC => (hC.blk 1 rfl)) ?_
     obtain ⟨g52,hp53⟩:=ite_some hp40
     obtain ⟨b54,p55,hA56,hc57⟩:=hs50.atF g52.1 g52.2
     refine q_indexAddr (c:=p31_14) (i:=7) (d:=(some 72)) (ty:=0) (t:=37) (e:=3) (n:=(gt a2v.Next t5).length) (cp:=c49) (sz:=1) (kk:=.i64) (x:=(.tmp 69)) (y:=(.tmp 71)) (b:=b54) (o':=p55) (j:=a1.Loc) (by kernel_rfl) (by kernel_rfl) (slv (by kernel_rfl) hA56) (by kernel_rfl) (by kernel_rfl) (by kernel_rfl) g52.1 g52.2 ?_
     refine qL1 3 (.tmp 72) 0 (fun w hC => (hc57.cells hC)) ?_
     refine qR 1 [] ?_
     refine Qs.nil ?_
     intro w58 hS59
     refine sI 5 (iR p31_16 2 7::td28) 75 hp53 (fun hp62 => ?_) fun hp66 => ?_
     ·refine sR 14 [.code p31_19,.code p31_18] ?_
      have hS63:=hS59.pick1
      have hS64:=hS63.drop
      refine rR (.tuple #[.string (⟨#[]⟩ : ByteArray),.bool false]) Try.func31 ?_
      cases Option.some.inj hp62
      exact hR _ _ ⟨rfl,hS64⟩
     refine sR 3 (iR p31_16 5 4::td28) ?_
     refine rL1 22 (.tmp 78) 0 (hS59.blk 0 rfl) ?_
     refine sI 2 (.inRegion (opsOf p31_16) [8]::td28) 81 hp66 (fun hp69 => ?_) fun hp73 => ?_
     ·refine sR 8 [.code p31_19,.code p31_18] ?_
      have hS70:=hS59.pick1
      have hS71:=hS70.drop
      refine rR (.tuple #[.string (⟨#[]⟩ : ByteArray),.bool false]) Try.func31 ?_
      cases Option.some.inj hp69
      exact hR _ _ ⟨rfl,hS71⟩
     refine sR 7 [.inRegion (opsOf (cd31 [1,1,1,1,1,1,1,1,0])) [1,2,3],.code p31_21] ?_
     obtain ⟨t74,hr75,hp76⟩:=bind_some' hp73
     refine rC (weirlaw14_name.ok hr75 hS59) ?_
     rintro _ w77 ⟨rfl,hS78⟩
     refine ⟨_,rfl,?_⟩
     refine sR 3 [.code p31_21] ?_
     have hS79:=hS78.pick1
     have hS80:=hS79.drop
     refine rR (.tuple #[.string t74,.bool true]) Try.func31 ?_
     cases Option.some.inj hp76
     exact hR _ _ ⟨rfl,hS80⟩
    refine sI 1 (.inRegion (opsOf p31_11) []::td27) 61 hv31 (fun hp84 => ?_) fun hp95 => ?_
    ·refine sR 3 (iR (cd31 [1,1,1,1,1,0,1,0]) 0 4::td26) ?_
     refine rL1 33 (.tmp 3) 0 (hS29.blk 2 rfl) ?_
     refine sR 2 (.inRegion (opsOf (cd31 [1,1,1,1,1,0,1,0])) [3]::td26) ?_
     have hS85:=hS29.pick3
     refine rS 4 (.tmp 64) (.const (.bool true)) 3 (.bool true) [.bool true] [.map (some ba3vv_0),.map (some ba3vv_1),.map (some ba3vv_2),.bool true] hS85 ?_
     intro w86 hS87
     refine sR 1 td26 ?_
     have hS88:=hS87.pick1
     have hS89:=hS88.pick5
     have hS90:=hS89.pick5
     have hS91:=hS90.pick3
     have hS92:=hS91.pick5
     have hS93:=hS92.pick6
     have hS94:=hS93.pick6
     exact rF _ (J36 true (Option.some.inj hp84) _ _ hS94)
    refine sR 3 td26 ?_
    have hS96:=hS29.pick5
    have hS97:=hS96.pick5
    have hS98:=hS97.pick5
    have hS99:=hS98.pick5
    have hS100:=hS99.pick6
    have hS101:=hS100.pick6
    exact rF _ (J36 a3vv_3 (Option.some.inj hp95) _ _ hS101)
   have hp102:=ite_t hp12 rfl
   refine sR 3 [iR (cd31 [1,1,0,1,0,0]) 0 4,.code (cd31 [1,1,0,1,0,1]),.code p31_6] ?_
   refine rL1 33 (.tmp 3) 0 (hS15.blk 1 rfl) ?_
   refine sR 2 [.inRegion (opsOf (cd31 [1,1,0,1,0,0])) [3],.code (cd31 [1,1,0,1,0,1]),.code p31_6] ?_
   have hS103:=hS15.pick2
   refine rS 4 (.tmp 42) (.const (.bool true)) 3 (.bool true) [.bool true] [.map (some ba3vv_0),.map (some ba3vv_1),.map (some ba3vv_2),.bool true] hS103 ?_
   intro w104 hS105
   refine sR 6 [.code (cd31 [1,1,0,1,0,1,1]),.code p31_6] ?_
   have hS106:=hS105.pick6
   have hS107:=hS106.drop
   have hS108:=hS107.pick5
   have hS109:=hS108.pick5
   have hS110:=hS109.pick5
   have hS111:=hS110.pick3
   have hS112:=hS111.pick5
   have hS113:=hS112.pick5
   refine rR (.tuple #[.string (⟨#[]⟩ : ByteArray),.bool false]) Try.func31 ?_
   cases Option.some.inj hp102
   exact hR _ _ ⟨rfl,hS113⟩
  refine r_quiet hS9 (c:=p31_4) (id:=2) (by kernel_rfl) (by kernel_rfl) (by kernel_rfl) (is:=[0,1,2,3,4,5,6,7,8,9,10,11,12,13,14,15,16,17,18,19,20,21,22,23,24,25]) (by kernel_rfl) ?_
  refine qI 2 (rg 2 24) 15 hv11 (fun hp117 => ?_) fun hp126 => ?_
  ·refine qR 24 [] ?_
   refine Qs.nil ?_
   intro w118 hS119
   have hS120:=hS119.pick6
   have hS121:=hS120.pick6
   have hS122:=hS121.pick6
   have hS123:=hS122.pick6
   have hS124:=hS123.pick6
   have hS125:=hS124.pick6
   exact rF _ (J16 true (Option.some.inj hp117) _ _ hS125)
  refine qR 2 (rg 4 22) ?_
  refine qL1 3 (.tmp 17) 2 (fun w hC => (hC.blk 0 rfl)) ?_
  refine qI 1 (rg 6 20) 19 hp126 (fun hp129 => ?_) fun hp138 => ?_
  ·refine qR 20 [] ?_
   refine Qs.nil ?_
   intro w130 hS131
   have hS132:=hS131.pick6
   have hS133:=hS132.pick6
   have hS134:=hS133.pick6
   have hS135:=hS134.pick6
   have hS136:=hS135.pick6
   have hS137:=hS136.pick6
   exact rF _ (J16 true (Option.some.inj hp129) _ _ hS137)
  refine qR 3 (rg 9 17) ?_
  refine qL1 3 (.tmp 22) 2 (fun w hC => (hC.blk 0 rfl)) ?_
  refine qR 1 (rg 11 15) ?_
  refine qL1 22 (.tmp 24) 0 (fun w hC => (hC.blk 1 rfl)) ?_
  refine qR 1 (rg 13 13) ?_
  obtain ⟨g139,hp140⟩:=ite_some hp138
  obtain ⟨b141,p142,cs145,hA143,hr146,hl147,hc144⟩:=y15.at_ g139.1 g139.2
  obtain ⟨A148,c149,rfl,hs150⟩:=hr146
  refine q_indexAddr (c:=p31_4) (i:=13) (d:=(some 27)) (ty:=0) (t:=22) (e:=37) (n:=a2v.Next.length) (cp:=y10) (sz:=1) (kk:=.i64) (x:=(.tmp 25)) (y:=(.tmp 26)) (b:=b141) (o':=p142) (j:=t5) (by kernel_rfl) (by kernel_rfl) (slv (by kernel_rfl) hA143) (by kernel_rfl) (by kernel_rfl) (by kernel_rfl) g139.1 g139.2 ?_
  refine qL1 37 (.tmp 27) 0 (fun w hC => (hc144.cells hC)) ?_
  refine qI 2 (rg 17 9) 30 hp140 (fun hp154 => ?_) fun hp163 => ?_
  ·refine qR 9 [] ?_
   refine Qs.nil ?_
   intro w155 hS156
   have hS157:=hS156.pick6
   have hS158:=hS157.pick6
   have hS159:=hS158.pick6
   have hS160:=hS159.pick6
   have hS161:=hS160.pick6
   have hS162:=hS161.pick6
   exact rF _ (J16 true (Option.some.inj hp154) _ _ hS162)
  refine qR 2 (rg 19 7) ?_
  refine qLa 88 (.tmp 5) (fun w hC => (hC.blk 0 rfl)) ?_
  refine qR 2 (rg 22 4) ?_
  refine qL1 3 (.tmp 35) 2 (fun w hC => (hC.blk 0 rfl)) ?_
  obtain ⟨t164,hr165,hp166⟩:=bind_some' hp163
  refine q_call1 (c:=p31_4) (i:=23) (d:=(some 37)) (v:=.agg (enc_api_Pick t164).toArray) (g:=30) (args:=#[.int .i64 t5,.int .i64 a1.Loc]) (by kernel_rfl) (by kernel_rfl) (by kernel_rfl) (by kernel_rfl) (fun w hC => by
   refine (weirlaw14_pick.ok hr165 hC).mono ?_
   rintro e w2 ⟨rfl,h2⟩
   have hS167:=h2.pick6
   have hS168:=hS167.pick6
   have hS169:=hS168.pick6
   have hS170:=hS169.pick6
   have hS171:=hS170.pick6
   have hS172:=hS171.pick6
   have hS173:=hS172.pick6
   exact ⟨rfl,hS173⟩) ?_
  refine qV (.binOp .neq 88 (.tmp 33) (.tmp 37) 88) (.bool (!(decide (a1 = t164)))) (fun w hC o ho _ => x_neq_api_Pick (by kernel_rfl) (by kernel_rfl) ho) ?_
  refine q_split (!(decide (a1 = t164))) (fun h174 => ?_) (fun h175 => ?_)
  ·have hp176:=ite_t hp166 h174
   refine qR 1 [] ?_
   refine Qs.nil ?_
   intro w177 hS178
   have hS179:=hS178.pick6
   have hS180:=hS179.pick6
   have hS181:=hS180.pick6
   have hS182:=hS181.pick6
   have hS183:=hS182.pick6
   have hS184:=hS183.pick6
   exact rF _ (J16 true (Option.some.inj hp176) _ _ hS184)
  have hp185:=ite_f hp166 h175
  refine qR 1 [] ?_
  refine Qs.nil ?_
  intro w186 hS187
  have hS188:=hS187.pick6
  have hS189:=hS188.pick6
  have hS190:=hS189.pick6
  have hS191:=hS190.pick6
  have hS192:=hS191.pick6
  have hS193:=hS192.pick6
  exact rF _ (J16 false (Option.some.inj hp185) _ _ hS193)

end
end Go.Proofs.Ytfiamlhhhkiiaaa.K
