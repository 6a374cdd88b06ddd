/- The walk, part 1: each Go function as a plain Lean function, and that its call answers as that function says. No condition. -/
import Derived.Test.YtfiamlhhhkiiaaaE
import Derived.Test.YtfiamlhhhkiiaaaNG
import Derived.Test.YtfiamlhhhkiiaaaNP
import Derived.Test.YtfiamlhhhkiiaaaNM
import Derived.Test.YtfiamlhhhkiiaaaNQ
import Derived.Test.YtfiamlhhhkiiaaaNI
import Derived.Test.YtfiamlhhhkiiaaaNX
import Derived.Test.YtfiamlhhhkiiaaaNY
import Derived.Test.YtfiamlhhhkiiaaaNC
import Derived.Test.YtfiamlhhhkiiaaaNF
import Derived.Test.YtfiamlhhhkiiaaaNW
import Derived.Test.YtfiamlhhhkiiaaaNK
import Derived.Test.YtfiamlhhhkiiaaaND
import Derived.Test.YtfiamlhhhkiiaaaWB
set_option linter.unusedVariables false
set_option linter.unusedSimpArgs false
set_option maxRecDepth 100000
set_option synthInstance.maxSize 100000
set_option synthInstance.maxHeartbeats 4000000
namespace Go.Proofs.Ytfiamlhhhkiiaaa.K
open Go Go.RowKit
noncomputable section
set_option maxHeartbeats 16000000
variable {w0 : World} {Z : Zm} {fs : List XObj} {w : World}
noncomputable def cd8 (p : List Nat) : Code := sub (bodyOf Try.f8) p
abbrev p8_4:=cd8 [1,1,1,0]
abbrev p8_6:=cd8 [1,1,0,1,0,0,0,0]
abbrev p8_9:=cd8 [1,1,0,1,0,0,1,0,0,0]
abbrev p8_10:=cd8 [1,1,0,1,0,0,1,0,0,1]
abbrev p8_12:=cd8 [1,1,0,1,0,0,1,0,0,1,0]
abbrev p8_14:=cd8 [1,1,0,1,0,0,1,0,0,1,1,0,1]
abbrev td1:List Item:=[.code (cd8 [1,1,1])]
abbrev td2:List Item:=.inBlock 0::td1
abbrev td3:List Item:=.inLoop (cd8 [1,1,0,1,0,0])::td2
abbrev td4:List Item:=.code (cd8 [1,1,0,1,0,0])::td3
abbrev td5:List Item:=[.code (cd8 [1,1,1,1])]
abbrev td6:List Item:=.code (cd8 [1,1,0,1,0,0,1])::td3
abbrev td7:List Item:=.code (cd8 [1,1,0,1,0,0,0,1])::td6
abbrev td8:List Item:=.code (cd8 [1,1,0,1,0,0,1,1])::td3
abbrev td9:List Item:=.inBlock 1::td8
abbrev td10:List Item:=.code (cd8 [1,1,0,1,0,0,1,0,0,1,1])::td9
def weirlaw14_Net__fine.l0 (a0 : weirlaw14_Net) (t41 t42 : Int) : Option (Sum Int Bool) :=
  (if (decide (t42 < (a0.Next.length : Int))) = true then (if (decide (t41 ≤ 200000)) = true then (if 0 ≤ t42 ∧ t42 < (a0.Next.length : Int) then (if 0 ≤ t42 ∧ t42 < (a0.Next.length : Int) then (if (decide (((gt a0.Next t42).length : Int) > 60000)) = true then some (.inr (false)) else (weirlaw14_Net__fine.l0 a0 (IntKind.i64.wrap (t41 + ((gt a0.Next t42).length : Int))) (IntKind.i64.wrap (t42 + 1)))) else none) else none) else some (.inl t41)) else some (.inl t41))
 partial_fixpoint
def weirlaw14_Net__fine.f (a0 : weirlaw14_Net) : Option Bool :=
  (weirlaw14_Net__fine.l0 a0 0 0 >>= (fun | .inl t8 => (if (decide ((a0.Next.length : Int) ≤ 60000)) = true then (if (decide (t8 ≤ 200000)) = true then (if (decide (a0.Start ≥ 0)) = true then (if (decide (a0.Start < (a0.Next.length : Int))) = true then some (true) else some (false)) else some (false)) else some (false)) else some (false)) | .inr e => some e))
theorem weirlaw14_Net__fine.ok {a0 : weirlaw14_Net} {y0 : Option Addr} {y1 : Nat} {y2 : Option Addr} {y3 : Nat} {y4 : Option Addr} {y5 : Nat} {q0 : Bool} (hp0 : weirlaw14_Net__fine.f a0 = some q0) (hS0 : St w0 Z (fs) w) (y6 : SlZ (repL (flat (encI .i64)) 1) 1 Z y0 y1 a0.Next) (y7 : SlZ (flat encB) 1 Z y2 y3 a0.End) (y8 : SlZ (flat (encI .i64)) 1 Z y4 y5 a0.Value) :
    Calls Try.prog 8 #[.agg #[.slice y0 a0.Next.length y1,.slice y2 a0.End.length y3,.slice y4 a0.Value.length y5,.int .i64 a0.Start]] w (fun e w' => e = .returned (.bool q0) ∧ St w0 Z (fs) w'):=by
  refine calls_abs ?_; intro R hR
  unfold weirlaw14_Net__fine.f at hp0
  refine calls_of_runs (fn:=Try.f8) (c:=cd8 []) Try.func8 (by kernel_rfl) (al:=[.agg #[.slice y0 a0.Next.length y1,.slice y2 a0.End.length y3,.slice y4 a0.Value.length y5,.int .i64 a0.Start]]) rfl (n:=51) rfl ?_
  refine sR 2 [.inRegion (opsOf (cd8 [0])) [0,1],.code (cd8 [1])] ?_
  refine r_box (c:=(cd8 [0])) (i:=0) (d:=(some 1)) (ty:=0) (x:=(.tmp 0)) (v:=.agg #[.slice y0 a0.Next.length y1,.slice y2 a0.End.length y3,.slice y4 a0.Value.length y5,.int .i64 a0.Start]) (t:=26) (cs:=[.slice y0 a0.Next.length y1,.slice y2 a0.End.length y3,.slice y4 a0.Value.length y5,.int .i64 a0.Start]) hS0 (by kernel_rfl) (by kernel_rfl) (by kernel_rfl) (by kernel_rfl) ?_
  intro b1 w2 hS3
  refine sR 13 td4 ?_
  obtain ⟨v5,hv6,hp7⟩:=bind_some' hp0
  have hq11 : ∀ x,Sum.inr x = v5 → x = q0:=by intro x hx; subst hx; simpa using hp7
  have J12 : ∀ (t8 : Int) (he14 : Sum.inl t8 = v5) (l13 : List Value) (w9 : World) (hS10 : St w0 Z (xblk b1 26 ([.slice y0 a0.Next.length y1,.slice y2 a0.End.length y3,.slice y4 a0.Value.length y5,.int .i64 a0.Start])::fs) w9),Runs Try.prog (fx 8) td1 (fill (mk 52 [(1,.pointer (some ⟨b1,0,none⟩)),(3,.int .i64 t8)]) l13) w9 R:=by
   intro t8 he14 l13 w9 hS10
   subst he14
   try dsimp only at hp7
   refine sR 3 (iR p8_4 1 21::td5) ?_
   refine rL1 22 (.tmp 31) 0 (hS10.blk 0 rfl) ?_
   refine sI 2 (iR p8_4 4 18::td5) 34 hp7 (fun hp17 => ?_) fun hp38 => ?_
   ·refine sI 3 (iR p8_4 7 15::td5) 37 hp17 (fun hp20 => ?_) fun hp35 => ?_
    ·refine sR 3 (iR p8_4 10 12::td5) ?_
     refine rL1 3 (.tmp 40) 3 (hS10.blk 0 rfl) ?_
     refine sI 1 (iR p8_4 12 10::td5) 42 hp20 (fun hp23 => ?_) fun hp32 => ?_
     ·refine sR 3 (iR p8_4 15 7::td5) ?_
      refine rL1 3 (.tmp 45) 3 (hS10.blk 0 rfl) ?_
      refine sR 1 (iR p8_4 17 5::td5) ?_
      refine rL1 22 (.tmp 47) 0 (hS10.blk 0 rfl) ?_
      refine sI 2 (.inRegion (opsOf p8_4) [20,21]::td5) 50 hp23 (fun hp26 => ?_) fun hp29 => ?_
      ·refine sR 3 td5 ?_
       have hS27:=hS10.drop
       refine rR (.bool true) Try.func8 ?_
       cases Option.some.inj hp26
       exact hR _ _ ⟨rfl,hS27⟩
      refine sR 3 td5 ?_
      have hS30:=hS10.drop
      refine rR (.bool false) Try.func8 ?_
      cases Option.some.inj hp29
      exact hR _ _ ⟨rfl,hS30⟩
     refine sR 11 td5 ?_
     have hS33:=hS10.drop
     refine rR (.bool false) Try.func8 ?_
     cases Option.some.inj hp32
     exact hR _ _ ⟨rfl,hS33⟩
    refine sR 16 td5 ?_
    have hS36:=hS10.drop
    refine rR (.bool false) Try.func8 ?_
    cases Option.some.inj hp35
    exact hR _ _ ⟨rfl,hS36⟩
   refine sR 19 td5 ?_
   have hS39:=hS10.drop
   refine rR (.bool false) Try.func8 ?_
   cases Option.some.inj hp38
   exact hR _ _ ⟨rfl,hS39⟩
  have L51 : ∀ (t41 t42 : Int) (e46 : Sum Int Bool),weirlaw14_Net__fine.l0 a0 t41 t42 = some e46 → e46 = v5 → ∀ (l45 : List Value) (w43 : World) (hS44 : St w0 Z (xblk b1 26 ([.slice y0 a0.Next.length y1,.slice y2 a0.End.length y3,.slice y4 a0.Value.length y5,.int .i64 a0.Start])::fs) w43),Runs Try.prog (fx 8) td4 (fill (mk 52 [(1,.pointer (some ⟨b1,0,none⟩)),(3,.int .i64 t41),(4,.int .i64 t42)]) l45) w43 R:=by
   refine weirlaw14_Net__fine.l0.partial_correctness a0 (fun t41 t42 e46 => e46 = v5 → ∀ (l45 : List Value) (w43 : World) (hS44 : St w0 Z (xblk b1 26 ([.slice y0 a0.Next.length y1,.slice y2 a0.End.length y3,.slice y4 a0.Value.length y5,.int .i64 a0.Start])::fs) w43),Runs Try.prog (fx 8) td4 (fill (mk 52 [(1,.pointer (some ⟨b1,0,none⟩)),(3,.int .i64 t41),(4,.int .i64 t42)]) l45) w43 R) ?_
   intro rec50 ih49 t41 t42 e46 hb48 he47 l45 w43 hS44
   have hq52 : ∀ x,Sum.inr x = e46 → x = q0:=fun x hx => hq11 x (hx.trans he47)
   refine sR 5 (iR p8_6 2 7::td7) ?_
   refine rL1 22 (.tmp 6) 0 (hS44.blk 0 rfl) ?_
   refine sI 2 (iR p8_6 5 4::td7) 9 hb48 (fun hp55 => ?_) fun hp92 => ?_
   ·refine sI 3 (.inRegion (opsOf p8_6) [8]::td7) 12 hp55 (fun hp58 => ?_) fun hp91 => ?_
    ·refine sR 10 (iR p8_9 2 7::.code p8_10::td9) ?_
     refine rL1 22 (.tmp 17) 0 (hS44.blk 0 rfl) ?_
     refine sR 1 (iR p8_9 4 5::.code p8_10::td9) ?_
     obtain ⟨g59,hp60⟩:=ite_some hp58
     obtain ⟨b61,p62,cs65,hA63,hr66,hl67,hc64⟩:=y6.at_ g59.1 g59.2
     obtain ⟨A68,c69,rfl,hs70⟩:=hr66
     refine r_indexAddr (c:=p8_9) (i:=4) (d:=(some 20)) (ty:=0) (t:=22) (e:=37) (n:=a0.Next.length) (cp:=y1) (sz:=1) (kk:=.i64) (x:=(.tmp 18)) (y:=(.tmp 19)) (b:=b61) (o':=p62) (j:=t42) (by kernel_rfl) (by kernel_rfl) (slv (by kernel_rfl) hA63) (by kernel_rfl) (by kernel_rfl) (by kernel_rfl) g59.1 g59.2 ?_
     refine rL1 37 (.tmp 20) 0 (hc64.cells hS44) ?_
     refine sR 7 (iR p8_12 1 6::td10) ?_
     refine rL1 22 (.tmp 24) 0 (hS44.blk 0 rfl) ?_
     refine sR 1 (iR p8_12 3 4::td10) ?_
     obtain ⟨g72,hp73⟩:=ite_some hp60
     obtain ⟨b74,p75,cs78,hA76,hr79,hl80,hc77⟩:=y6.at_ g72.1 g72.2
     obtain ⟨A81,c82,rfl,hs83⟩:=hr79
     refine r_indexAddr (c:=p8_12) (i:=3) (d:=(some 27)) (ty:=0) (t:=22) (e:=37) (n:=a0.Next.length) (cp:=y1) (sz:=1) (kk:=.i64) (x:=(.tmp 25)) (y:=(.tmp 26)) (b:=b74) (o':=p75) (j:=t42) (by kernel_rfl) (by kernel_rfl) (slv (by kernel_rfl) hA76) (by kernel_rfl) (by kernel_rfl) (by kernel_rfl) g72.1 g72.2 ?_
     refine rL1 37 (.tmp 27) 0 (hc77.cells hS44) ?_
     refine sI 2 (.inRegion (opsOf p8_12) []::td10) 30 hp73 (fun hp87 => ?_) fun hp90 => ?_
     ·refine sR 6 (.code p8_14::td9) ?_
      refine r_isret (c:=p8_14) (by kernel_rfl) ?_
      have hS88:=hS44.drop
      refine rR (.bool false) Try.func8 ?_
      cases hq52 _ (Option.some.inj hp87)
      exact hR _ _ ⟨rfl,hS88⟩
     refine sR 9 td3 ?_
     refine sR 1 td4 ?_
     exact rF _ (ih49 (IntKind.i64.wrap (t41 + ((gt a0.Next t42).length : Int))) (IntKind.i64.wrap (t42 + 1)) _ hp90 he47 _ _ hS44)
    refine sR 4 td1 ?_
    exact rF _ (J12 t41 ((Option.some.inj hp91).trans he47) _ _ hS44)
   refine sR 7 td1 ?_
   exact rF _ (J12 t41 ((Option.some.inj hp92).trans he47) _ _ hS44)
  exact rF _ (L51 0 0 _ hv6 rfl _ _ hS3)

noncomputable def cd13 (p : List Nat) : Code := sub (bodyOf Try.f13) p
def weirlaw14_name.f (a0 : Int) : Option ByteArray :=
  (if (⟨#[115]⟩ : ByteArray).size + (ofBytes ([(IntKind.u8.wrap (shrI .i64 a0 8)),(IntKind.u8.wrap a0)] : List Int)).size ≤ 9223372036854775807 then some (((⟨#[115]⟩ : ByteArray) ++ (ofBytes ([(IntKind.u8.wrap (shrI .i64 a0 8)),(IntKind.u8.wrap a0)] : List Int)))) else none)
theorem weirlaw14_name.ok {a0 : Int} {q0 : ByteArray} (hp0 : weirlaw14_name.f a0 = some q0) (hS0 : St w0 Z (fs) w) :
    Calls Try.prog 13 #[.int .i64 a0] w (fun e w' => e = .returned (.string q0) ∧ St w0 Z (fs) w'):=by
  refine calls_abs ?_; intro R hR
  unfold weirlaw14_name.f at hp0
  refine calls_of_runs (fn:=Try.f13) (c:=cd13 []) Try.func13 (by kernel_rfl) (al:=[.int .i64 a0]) rfl (n:=10) rfl ?_
  refine sR 11 [iR (cd13 [1,0]) 5 4,.code (cd13 [1,1])] ?_
  refine r_lit (c:=(cd13 [1,0])) (i:=5) (d:=(some 8)) (ty:=104) (t:=104) (e:=5) (sz:=1) (n:=2) (parts:=#[(0,(.tmp 5)),(1,(.tmp 7))]) (vs:=[(0,.int .u8 (IntKind.u8.wrap (shrI .i64 a0 8))),(1,.int .u8 (IntKind.u8.wrap a0))]) (z:=zeroOf Try.prog 5) (cs':=([(IntKind.u8.wrap (shrI .i64 a0 8)),(IntKind.u8.wrap a0)] : List Int).flatMap (encI .u8)) hS0 (by kernel_rfl) (by kernel_rfl) (by kernel_rfl) (by kernel_rfl) (by kernel_rfl) (by decide) (by decide) (by kernel_rfl) rfl (Parts.cons (c:=[.int .u8 (IntKind.u8.wrap (shrI .i64 a0 8))]) (by kernel_rfl) rfl (Parts.cons (c:=[.int .u8 (IntKind.u8.wrap a0)]) (by kernel_rfl) rfl Parts.nil)) rfl ?_
  intro b2 w3 hS4
  refine rV (.convert 104 9 (.tmp 8)) (.string (ofBytes ([(IntKind.u8.wrap (shrI .i64 a0 8)),(IntKind.u8.wrap a0)] : List Int))) (fun o ho _ => x_bytesStr (e:=5) (A:=(some ⟨b2,0,none⟩)) (c:=2) (by kernel_rfl) (src_row (hS4.row 0 rfl) (by omega) (len_encI .u8)) (by kernel_rfl) (by kernel_rfl) (by kernel_rfl) ho) ?_
  obtain ⟨g5,hp6⟩:=ite_some hp0
  refine rV (.binOp .add 9 (.const (.string (⟨#[115]⟩ : ByteArray))) (.tmp 9) 9) (.string ((⟨#[115]⟩ : ByteArray) ++ (ofBytes ([(IntKind.u8.wrap (shrI .i64 a0 8)),(IntKind.u8.wrap a0)] : List Int)))) (fun o ho _ => x_concat (by kernel_rfl) (by kernel_rfl) g5 ho) ?_
  refine sR 2 [.code (cd13 [1,1])] ?_
  have hS7:=hS4.drop
  refine rR (.string ((⟨#[115]⟩ : ByteArray) ++ (ofBytes ([(IntKind.u8.wrap (shrI .i64 a0 8)),(IntKind.u8.wrap a0)] : List Int)))) Try.func13 ?_
  cases Option.some.inj hp6
  exact hR _ _ ⟨rfl,hS7⟩

noncomputable def cd9 (p : List Nat) : Code := sub (bodyOf Try.f9) p
abbrev p9_2:=cd9 [1,0]
def weirlaw14_Net__machine.f (a0 : weirlaw14_Net) : Option (ByteArray × (List (ByteArray × Int)) × (List (ByteArray × Int)) × (List (ByteArray × Int)) × Bool × weirlaw14_Net) :=
  (weirlaw14_name.f a0.Start >>= (fun t34 => some ((t34,([] : List (ByteArray × Int)),([] : List (ByteArray × Int)),([] : List (ByteArray × Int)),false,a0))))
theorem weirlaw14_Net__machine.ok {a0 : weirlaw14_Net} {y0 : Option Addr} {y1 : Nat} {y2 : Option Addr} {y3 : Nat} {y4 : Option Addr} {y5 : Nat} {q0 : ByteArray} {q1 q2 q3 : List (ByteArray × Int)} {q4 : Bool} {q5 : weirlaw14_Net} (hp0 : weirlaw14_Net__machine.f a0 = some (q0,q1,q2,q3,q4,q5)) (hS0 : St w0 Z (fs) w) (y6 : SlZ (repL (flat (encI .i64)) 1) 1 Z y0 y1 a0.Next) (y7 : SlZ (flat encB) 1 Z y2 y3 a0.End) (y8 : SlZ (flat (encI .i64)) 1 Z y4 y5 a0.Value) :
    Calls Try.prog 9 #[.agg #[.slice y0 a0.Next.length y1,.slice y2 a0.End.length y3,.slice y4 a0.Value.length y5,.int .i64 a0.Start]] w (fun e w' => ∃ (Qb0 : Nat) (Qb1 : Nat) (Qb2 : Nat) (Qb3 : Nat) (Qb4 : Nat) (Qb5 : Nat) (QA6 : Option Addr) (Qc6 : Nat) (QA8 : Option Addr) (Qc8 : Nat) (QA10 : Option Addr) (Qc10 : Nat),e = .returned (.tuple #[.agg #[.string q0,.func (.func 28) #[] #[.pointer (some ⟨Qb0,0,none⟩),.pointer (some ⟨Qb5,0,none⟩)],.func (.func 31) #[] #[.pointer (some ⟨Qb5,0,none⟩),.pointer (some ⟨Qb0,0,none⟩)],.func (.func 32) #[] #[.pointer (some ⟨Qb0,0,none⟩),.pointer (some ⟨Qb5,0,none⟩)]],.pointer (some ⟨Qb1,0,none⟩)]) ∧ St w0 Z (xblk Qb0 33 ([.pointer (some ⟨Qb1,0,none⟩)])::xblk Qb1 49 ([.map (some Qb2),.map (some Qb3),.map (some Qb4),.bool q4])::xmap Qb2 (q1.map (kv Value.string (Value.int .i64)))::xmap Qb3 (q2.map (kv Value.string (Value.int .i64)))::xmap Qb4 (q3.map (kv Value.string (Value.int .i64)))::xblk Qb5 26 ([.slice QA6 q5.Next.length Qc6,.slice QA8 q5.End.length Qc8,.slice QA10 q5.Value.length Qc10,.int .i64 q5.Start])::fs) w' ∧ SlZ (repL (flat (encI .i64)) 1) 1 Z QA6 Qc6 q5.Next ∧ SlZ (flat encB) 1 Z QA8 Qc8 q5.End ∧ SlZ (flat (encI .i64)) 1 Z QA10 Qc10 q5.Value):=by
  refine calls_abs ?_; intro R hR
  unfold weirlaw14_Net__machine.f at hp0
  refine calls_of_runs (fn:=Try.f9) (c:=cd9 []) Try.func9 (by kernel_rfl) (al:=[.agg #[.slice y0 a0.Next.length y1,.slice y2 a0.End.length y3,.slice y4 a0.Value.length y5,.int .i64 a0.Start]]) rfl (n:=22) rfl ?_
  refine sR 2 [.inRegion (opsOf (cd9 [0])) [0,1,2],.code (cd9 [1])] ?_
  refine r_box (c:=(cd9 [0])) (i:=0) (d:=(some 1)) (ty:=0) (x:=(.tmp 0)) (v:=.agg #[.slice y0 a0.Next.length y1,.slice y2 a0.End.length y3,.slice y4 a0.Value.length y5,.int .i64 a0.Start]) (t:=26) (cs:=[.slice y0 a0.Next.length y1,.slice y2 a0.End.length y3,.slice y4 a0.Value.length y5,.int .i64 a0.Start]) hS0 (by kernel_rfl) (by kernel_rfl) (by kernel_rfl) (by kernel_rfl) ?_
  intro b1 w2 hS3
  refine rA 32 (.agg #[.string (⟨#[]⟩ : ByteArray),.nilFunc,.nilFunc,.nilFunc]) [.string (⟨#[]⟩ : ByteArray),.nilFunc,.nilFunc,.nilFunc] hS3 ?_
  intro b5 w6 hS7
  refine sR 4 [iR p9_2 0 7,.code (cd9 [1,1])] ?_
  refine r_makeMap (c:=p9_2) (i:=0) (d:=(some 6)) (ty:=41) (t:=41) hS7 (by kernel_rfl) (by kernel_rfl) ?_
  intro b9 w10 hS11
  have hS13 : St w0 Z (xmap b9 (([] : List (ByteArray × Int)).map (kv Value.string (Value.int .i64)))::xblk b5 32 ([.string (⟨#[]⟩ : ByteArray),.nilFunc,.nilFunc,.nilFunc])::xblk b1 26 ([.slice y0 a0.Next.length y1,.slice y2 a0.End.length y3,.slice y4 a0.Value.length y5,.int .i64 a0.Start])::fs) w10:=hS11
  refine r_makeMap (c:=p9_2) (i:=1) (d:=(some 7)) (ty:=41) (t:=41) hS13 (by kernel_rfl) (by kernel_rfl) ?_
  intro b14 w15 hS16
  have hS18 : St w0 Z (xmap b14 (([] : List (ByteArray × Int)).map (kv Value.string (Value.int .i64)))::xmap b9 (([] : List (ByteArray × Int)).map (kv Value.string (Value.int .i64)))::xblk b5 32 ([.string (⟨#[]⟩ : ByteArray),.nilFunc,.nilFunc,.nilFunc])::xblk b1 26 ([.slice y0 a0.Next.length y1,.slice y2 a0.End.length y3,.slice y4 a0.Value.length y5,.int .i64 a0.Start])::fs) w15:=hS16
  refine r_makeMap (c:=p9_2) (i:=2) (d:=(some 8)) (ty:=41) (t:=41) hS18 (by kernel_rfl) (by kernel_rfl) ?_
  intro b19 w20 hS21
  have hS23 : St w0 Z (xmap b19 (([] : List (ByteArray × Int)).map (kv Value.string (Value.int .i64)))::xmap b14 (([] : List (ByteArray × Int)).map (kv Value.string (Value.int .i64)))::xmap b9 (([] : List (ByteArray × Int)).map (kv Value.string (Value.int .i64)))::xblk b5 32 ([.string (⟨#[]⟩ : ByteArray),.nilFunc,.nilFunc,.nilFunc])::xblk b1 26 ([.slice y0 a0.Next.length y1,.slice y2 a0.End.length y3,.slice y4 a0.Value.length y5,.int .i64 a0.Start])::fs) w20:=hS21
  refine sR 1 [.inRegion (opsOf p9_2) [4,5,6],.code (cd9 [1,1])] ?_
  refine r_box (c:=p9_2) (i:=4) (d:=(some 10)) (ty:=33) (x:=(.tmp 9)) (v:=.agg #[.map (some b9),.map (some b14),.map (some b19),.bool false]) (t:=49) (cs:=[.map (some b9),.map (some b14),.map (some b19),.bool false]) hS23 (by kernel_rfl) (by kernel_rfl) (by kernel_rfl) (by kernel_rfl) ?_
  intro b24 w25 hS26
  refine rA 33 (.pointer none) [.pointer none] hS26 ?_
  intro b28 w29 hS30
  refine rS 33 (.tmp 4) (.tmp 10) 0 (.pointer (some ⟨b24,0,none⟩)) [.pointer (some ⟨b24,0,none⟩)] [.pointer (some ⟨b24,0,none⟩)] hS30 ?_
  intro w32 hS33
  refine sR 4 [iR (cd9 [1,1,0]) 1 5,.code (cd9 [1,1,1])] ?_
  refine rL1 3 (.tmp 11) 3 (hS33.blk 6 rfl) ?_
  obtain ⟨t34,hr35,hp36⟩:=bind_some' hp0
  refine rC (weirlaw14_name.ok hr35 hS33) ?_
  rintro _ w37 ⟨rfl,hS38⟩
  refine ⟨_,rfl,?_⟩
  refine sR 1 [.inRegion (opsOf (cd9 [1,1,0])) [4,5],.code (cd9 [1,1,1])] ?_
  refine rA 32 (.agg #[.string (⟨#[]⟩ : ByteArray),.nilFunc,.nilFunc,.nilFunc]) [.string (⟨#[]⟩ : ByteArray),.nilFunc,.nilFunc,.nilFunc] hS38 ?_
  intro b39 w40 hS41
  refine rS 32 (.tmp 5) (.tmp 14) 0 (.agg #[.string t34,.nilFunc,.nilFunc,.nilFunc]) [.string t34,.nilFunc,.nilFunc,.nilFunc] [.string t34,.nilFunc,.nilFunc,.nilFunc] hS41 ?_
  intro w43 hS44
  refine sR 5 [.inRegion (opsOf (cd9 [1,1,1,0])) [2],.code (cd9 [1,1,1,1])] ?_
  refine rS 28 (.tmp 16) (.tmp 15) 1 (.func (.func 28) #[] #[.pointer (some ⟨b28,0,none⟩),.pointer (some ⟨b1,0,none⟩)]) [.func (.func 28) #[] #[.pointer (some ⟨b28,0,none⟩),.pointer (some ⟨b1,0,none⟩)]] [.string t34,.func (.func 28) #[] #[.pointer (some ⟨b28,0,none⟩),.pointer (some ⟨b1,0,none⟩)],.nilFunc,.nilFunc] hS44 ?_
  intro w45 hS46
  refine sR 5 [.inRegion (opsOf (cd9 [1,1,1,1,0])) [2],.code (cd9 [1,1,1,1,1])] ?_
  refine rS 29 (.tmp 18) (.tmp 17) 2 (.func (.func 31) #[] #[.pointer (some ⟨b1,0,none⟩),.pointer (some ⟨b28,0,none⟩)]) [.func (.func 31) #[] #[.pointer (some ⟨b1,0,none⟩),.pointer (some ⟨b28,0,none⟩)]] [.string t34,.func (.func 28) #[] #[.pointer (some ⟨b28,0,none⟩),.pointer (some ⟨b1,0,none⟩)],.func (.func 31) #[] #[.pointer (some ⟨b1,0,none⟩),.pointer (some ⟨b28,0,none⟩)],.nilFunc] hS46 ?_
  intro w47 hS48
  refine sR 5 [.inRegion (opsOf (cd9 [1,1,1,1,1,0])) [2],.code (cd9 [1,1,1,1,1,1])] ?_
  refine rS 30 (.tmp 20) (.tmp 19) 3 (.func (.func 32) #[] #[.pointer (some ⟨b28,0,none⟩),.pointer (some ⟨b1,0,none⟩)]) [.func (.func 32) #[] #[.pointer (some ⟨b28,0,none⟩),.pointer (some ⟨b1,0,none⟩)]] [.string t34,.func (.func 28) #[] #[.pointer (some ⟨b28,0,none⟩),.pointer (some ⟨b1,0,none⟩)],.func (.func 31) #[] #[.pointer (some ⟨b1,0,none⟩),.pointer (some ⟨b28,0,none⟩)],.func (.func 32) #[] #[.pointer (some ⟨b28,0,none⟩),.pointer (some ⟨b1,0,none⟩)]] hS48 ?_
  intro w49 hS50
  refine sR 2 [.code (cd9 [1,1,1,1,1,1,0]),.code (cd9 [1,1,1,1,1,1,1])] ?_
  have hS51:=hS50.pick6
  have hS52:=hS51.pick2
  have hS53:=hS52.pick2
  generalize hg55 : (xblk b24 49 ([.map (some b9),.map (some b14),.map (some b19),.bool false])::xmap b19 (([] : List (ByteArray × Int)).map (kv Value.string (Value.int .i64)))::xmap b14 (([] : List (ByteArray × Int)).map (kv Value.string (Value.int .i64)))::xmap b9 (([] : List (ByteArray × Int)).map (kv Value.string (Value.int .i64)))::xblk b1 26 ([.slice y0 a0.Next.length y1,.slice y2 a0.End.length y3,.slice y4 a0.Value.length y5,.int .i64 a0.Start])::fs) = gs54 at hS53
  have hS56:=hS53.pick2
  refine r_drawnF (X:=Unit) (c:=(cd9 [1,1,1,1,1,1,0])) (id:=6) (C0:=fun w' => St w0 Z (xblk b5 32 ([.string (⟨#[]⟩ : ByteArray),.nilFunc,.nilFunc,.nilFunc])::xblk b39 32 ([.string t34,.func (.func 28) #[] #[.pointer (some ⟨b28,0,none⟩),.pointer (some ⟨b1,0,none⟩)],.func (.func 31) #[] #[.pointer (some ⟨b1,0,none⟩),.pointer (some ⟨b28,0,none⟩)],.func (.func 32) #[] #[.pointer (some ⟨b28,0,none⟩),.pointer (some ⟨b1,0,none⟩)]])::xblk b28 33 ([.pointer (some ⟨b24,0,none⟩)])::gs54) w') (C1:=fun _ w' => St w0 Z (xblk b5 32 ([.string t34,.func (.func 28) #[] #[.pointer (some ⟨b28,0,none⟩),.pointer (some ⟨b1,0,none⟩)],.func (.func 31) #[] #[.pointer (some ⟨b1,0,none⟩),.pointer (some ⟨b28,0,none⟩)],.func (.func 32) #[] #[.pointer (some ⟨b28,0,none⟩),.pointer (some ⟨b1,0,none⟩)]])::xblk b39 32 ([.string t34,.func (.func 28) #[] #[.pointer (some ⟨b28,0,none⟩),.pointer (some ⟨b1,0,none⟩)],.func (.func 31) #[] #[.pointer (some ⟨b1,0,none⟩),.pointer (some ⟨b28,0,none⟩)],.func (.func 32) #[] #[.pointer (some ⟨b28,0,none⟩),.pointer (some ⟨b1,0,none⟩)]])::xblk b28 33 ([.pointer (some ⟨b24,0,none⟩)])::gs54) w') (vs:=[.agg #[.string t34,.func (.func 28) #[] #[.pointer (some ⟨b28,0,none⟩),.pointer (some ⟨b1,0,none⟩)],.func (.func 31) #[] #[.pointer (some ⟨b1,0,none⟩),.pointer (some ⟨b28,0,none⟩)],.func (.func 32) #[] #[.pointer (some ⟨b28,0,none⟩),.pointer (some ⟨b1,0,none⟩)]],.pointer (some ⟨b24,0,none⟩),undef,undef]) (vx:=fun _ => [.agg #[.string t34,.func (.func 28) #[] #[.pointer (some ⟨b28,0,none⟩),.pointer (some ⟨b1,0,none⟩)],.func (.func 31) #[] #[.pointer (some ⟨b1,0,none⟩),.pointer (some ⟨b28,0,none⟩)],.func (.func 32) #[] #[.pointer (some ⟨b28,0,none⟩),.pointer (some ⟨b1,0,none⟩)]],.pointer (some ⟨b24,0,none⟩),undef,.pointer (some ⟨b24,0,none⟩)]) 2 4 [2,3] [] (by kernel_rfl) (by kernel_rfl) (by kernel_rfl) (by decide) (by kernel_rfl) (by kernel_rfl) (by kernel_rfl) rfl ?_ (fun _ => ⟨rfl,rfl⟩) hS56.drew ?_ ?_ ?_ ?_ ?_
  ·intro _u i hi hd
   match i,hi,hd with
   | 0,_,_ => exact rfl
   | 1,_,_ => exact rfl
   | 2,_,hd => exact absurd hd (by decide)
   | 3,_,hd => exact absurd hd (by decide)
   | i + 4,hi,_ => exact absurd hi (by omega)
  ·intro i hi hd w hC
   match i,hi,hd with
   | 0,_,_ => exact does_run (x_load (t:=32) (x:=(.tmp 5)) (p:=⟨b39,0,none⟩) (v:=.agg #[.string t34,.func (.func 28) #[] #[.pointer (some ⟨b28,0,none⟩),.pointer (some ⟨b1,0,none⟩)],.func (.func 31) #[] #[.pointer (some ⟨b1,0,none⟩),.pointer (some ⟨b28,0,none⟩)],.func (.func 32) #[] #[.pointer (some ⟨b28,0,none⟩),.pointer (some ⟨b1,0,none⟩)]]) (by kernel_rfl) (loads_agg (hC.blk 1 rfl) (by kernel_rfl) (by kernel_rfl)) (by kernel_rfl)) rfl hC
   | 1,_,_ => exact does_run (x_load (t:=33) (x:=(.tmp 4)) (p:=⟨b28,0,none⟩) (v:=.pointer (some ⟨b24,0,none⟩)) (by kernel_rfl) (loads_at 0 (hC.blk 2 rfl) (by kernel_rfl) (by kernel_rfl)) (by kernel_rfl)) rfl hC
   | 2,_,hd => exact absurd hd (by decide)
   | 3,_,hd => exact absurd hd (by decide)
   | i + 4,hi,_ => exact absurd hi (by omega)
  ·intro i hi hd _u w hC
   match i,hi,hd with
   | 0,_,_ => exact does_run (x_load (t:=32) (x:=(.tmp 5)) (p:=⟨b39,0,none⟩) (v:=.agg #[.string t34,.func (.func 28) #[] #[.pointer (some ⟨b28,0,none⟩),.pointer (some ⟨b1,0,none⟩)],.func (.func 31) #[] #[.pointer (some ⟨b1,0,none⟩),.pointer (some ⟨b28,0,none⟩)],.func (.func 32) #[] #[.pointer (some ⟨b28,0,none⟩),.pointer (some ⟨b1,0,none⟩)]]) (by kernel_rfl) (loads_agg (hC.blk 1 rfl) (by kernel_rfl) (by kernel_rfl)) (by kernel_rfl)) rfl hC
   | 1,_,_ => exact does_run (x_load (t:=33) (x:=(.tmp 4)) (p:=⟨b28,0,none⟩) (v:=.pointer (some ⟨b24,0,none⟩)) (by kernel_rfl) (loads_at 0 (hC.blk 2 rfl) (by kernel_rfl) (by kernel_rfl)) (by kernel_rfl)) rfl hC
   | 2,_,hd => exact absurd hd (by decide)
   | 3,_,hd => exact absurd hd (by decide)
   | i + 4,hi,_ => exact absurd hi (by omega)
  ·intro w hC
   exact does_store (ux:=()) (t:=32) (x:=(.tmp 2)) (y:=(.tmp 21)) (b:=b5) (o:=0) (e:=32) (cs:=[.string (⟨#[]⟩ : ByteArray),.nilFunc,.nilFunc,.nilFunc]) (v:=.agg #[.string t34,.func (.func 28) #[] #[.pointer (some ⟨b28,0,none⟩),.pointer (some ⟨b1,0,none⟩)],.func (.func 31) #[] #[.pointer (some ⟨b1,0,none⟩),.pointer (some ⟨b28,0,none⟩)],.func (.func 32) #[] #[.pointer (some ⟨b28,0,none⟩),.pointer (some ⟨b1,0,none⟩)]]) (vs:=[.string t34,.func (.func 28) #[] #[.pointer (some ⟨b28,0,none⟩),.pointer (some ⟨b1,0,none⟩)],.func (.func 31) #[] #[.pointer (some ⟨b1,0,none⟩),.pointer (some ⟨b28,0,none⟩)],.func (.func 32) #[] #[.pointer (some ⟨b28,0,none⟩),.pointer (some ⟨b1,0,none⟩)]]) (cs':=[.string t34,.func (.func 28) #[] #[.pointer (some ⟨b28,0,none⟩),.pointer (some ⟨b1,0,none⟩)],.func (.func 31) #[] #[.pointer (some ⟨b1,0,none⟩),.pointer (some ⟨b28,0,none⟩)],.func (.func 32) #[] #[.pointer (some ⟨b28,0,none⟩),.pointer (some ⟨b1,0,none⟩)]]) hC (by kernel_rfl) (by kernel_rfl) (by kernel_rfl) (by kernel_rfl) (by kernel_rfl) (by kernel_rfl) (by kernel_rfl) (Nat.le_of_ble_eq_true (by kernel_rfl)) (by kernel_rfl) (fun _ h => h)
  ·intro i hi hd hne _u w hC
   match i,hi,hd,hne with
   | 0,_,hd,_ => exact absurd hd (by decide)
   | 1,_,hd,_ => exact absurd hd (by decide)
   | 2,_,_,hne => exact absurd rfl hne
   | 3,_,_,_ => exact does_pure (v:=.pointer (some ⟨b24,0,none⟩)) (by kernel_rfl) rfl hC
   | i + 4,hi,_,_ => exact absurd hi (by omega)
  intro _u w57 hS58
  subst hg55
  have hS59:=hS58.drop
  have hS60:=hS59.drop
  have hS61:=hS60.pick5
  have hS62:=hS61.pick3
  have hS63:=hS62.pick4
  have hS64:=hS63.pick5
  have hS65:=hS64.pick5
  have hS66:=hS65.pick5
  refine rRc (.tuple #[.agg #[.string t34,.func (.func 28) #[] #[.pointer (some ⟨b28,0,none⟩),.pointer (some ⟨b1,0,none⟩)],.func (.func 31) #[] #[.pointer (some ⟨b1,0,none⟩),.pointer (some ⟨b28,0,none⟩)],.func (.func 32) #[] #[.pointer (some ⟨b28,0,none⟩),.pointer (some ⟨b1,0,none⟩)]],.pointer (some ⟨b24,0,none⟩)]) (.ca 2 32 (hS58.blk 0 rfl) (.tm 3 .nil)) Try.func9 ?_
  cases Option.some.inj hp36
  exact hR _ _ ⟨b28,b24,b9,b14,b19,b1,y0,y1,y2,y3,y4,y5,rfl,hS66,y6,y7,y8⟩

noncomputable def cd35 (p : List Nat) : Code := sub (bodyOf Try.f35) p
def explore_walk.f (y9 : ByteArray) (a0_1c0vv_0m a0_1c0vv_1m a0_1c0vv_2m : List (ByteArray × Int)) (a0_1c0vv_3 : Bool) (a0_1c1v : weirlaw14_Net) : Option ByteArray :=
  some (y9)
theorem explore_walk.ok {y9 : ByteArray} {a0_1c0vv_0m a0_1c0vv_1m a0_1c0vv_2m : List (ByteArray × Int)} {a0_1c0vv_3 : Bool} {a0_1c1v : weirlaw14_Net} {ba0_1c0 ba0_1c0v : Nat} {ba0_1c0vv_0 ba0_1c0vv_1 : Nat} {ba0_1c0vv_2 ba0_1c1 : Nat} {Aa0_1c1v_0 : Option Addr} {ca0_1c1v_0 : Nat} {Aa0_1c1v_1 : Option Addr} {ca0_1c1v_1 : Nat} {Aa0_1c1v_2 : Option Addr} {ca0_1c1v_2 : Nat} {q0 : ByteArray} (hp0 : explore_walk.f y9 a0_1c0vv_0m a0_1c0vv_1m a0_1c0vv_2m a0_1c0vv_3 a0_1c1v = some q0) (hS0 : St w0 Z (xblk ba0_1c0 33 ([.pointer (some ⟨ba0_1c0v,0,none⟩)])::xblk ba0_1c0v 49 ([.map (some ba0_1c0vv_0),.map (some ba0_1c0vv_1),.map (some ba0_1c0vv_2),.bool a0_1c0vv_3])::xmap ba0_1c0vv_0 (a0_1c0vv_0m.map (kv Value.string (Value.int .i64)))::xmap ba0_1c0vv_1 (a0_1c0vv_1m.map (kv Value.string (Value.int .i64)))::xmap ba0_1c0vv_2 (a0_1c0vv_2m.map (kv Value.string (Value.int .i64)))::xblk ba0_1c1 26 ([.slice Aa0_1c1v_0 a0_1c1v.Next.length ca0_1c1v_0,.slice Aa0_1c1v_1 a0_1c1v.End.length ca0_1c1v_1,.slice Aa0_1c1v_2 a0_1c1v.Value.length ca0_1c1v_2,.int .i64 a0_1c1v.Start])::fs) w) (ha0_1c1v_0 : SlZ (repL (flat (encI .i64)) 1) 1 Z Aa0_1c1v_0 ca0_1c1v_0 a0_1c1v.Next) (ha0_1c1v_1 : SlZ (flat encB) 1 Z Aa0_1c1v_1 ca0_1c1v_1 a0_1c1v.End) (ha0_1c1v_2 : SlZ (flat (encI .i64)) 1 Z Aa0_1c1v_2 ca0_1c1v_2 a0_1c1v.Value) :
    Calls Try.prog 35 #[.agg #[.string y9,.func (.func 28) #[] #[.pointer (some ⟨ba0_1c0,0,none⟩),.pointer (some ⟨ba0_1c1,0,none⟩)],.func (.func 31) #[] #[.pointer (some ⟨ba0_1c1,0,none⟩),.pointer (some ⟨ba0_1c0,0,none⟩)],.func (.func 32) #[] #[.pointer (some ⟨ba0_1c0,0,none⟩),.pointer (some ⟨ba0_1c1,0,none⟩)]],.nilFunc] w (fun e w' => ∃ (Qb0 : Nat) (Qb1 : Nat),e = .returned (.func (.func 44) #[] #[.pointer (some ⟨Qb0,0,none⟩),.pointer (some ⟨Qb1,0,none⟩)]) ∧ St w0 Z (xblk Qb0 32 ([.string q0,.func (.func 28) #[] #[.pointer (some ⟨ba0_1c0,0,none⟩),.pointer (some ⟨ba0_1c1,0,none⟩)],.func (.func 31) #[] #[.pointer (some ⟨ba0_1c1,0,none⟩),.pointer (some ⟨ba0_1c0,0,none⟩)],.func (.func 32) #[] #[.pointer (some ⟨ba0_1c0,0,none⟩),.pointer (some ⟨ba0_1c1,0,none⟩)]])::xblk Qb1 130 ([.nilFunc])::xblk ba0_1c0 33 ([.pointer (some ⟨ba0_1c0v,0,none⟩)])::xblk ba0_1c0v 49 ([.map (some ba0_1c0vv_0),.map (some ba0_1c0vv_1),.map (some ba0_1c0vv_2),.bool a0_1c0vv_3])::xmap ba0_1c0vv_0 (a0_1c0vv_0m.map (kv Value.string (Value.int .i64)))::xmap ba0_1c0vv_1 (a0_1c0vv_1m.map (kv Value.string (Value.int .i64)))::xmap ba0_1c0vv_2 (a0_1c0vv_2m.map (kv Value.string (Value.int .i64)))::xblk ba0_1c1 26 ([.slice Aa0_1c1v_0 a0_1c1v.Next.length ca0_1c1v_0,.slice Aa0_1c1v_1 a0_1c1v.End.length ca0_1c1v_1,.slice Aa0_1c1v_2 a0_1c1v.Value.length ca0_1c1v_2,.int .i64 a0_1c1v.Start])::fs) w'):=by
  refine calls_abs ?_; intro R hR
  unfold explore_walk.f at hp0
  refine calls_of_runs (fn:=Try.f35) (c:=cd35 []) Try.func35 (by kernel_rfl) (al:=[.agg #[.string y9,.func (.func 28) #[] #[.pointer (some ⟨ba0_1c0,0,none⟩),.pointer (some ⟨ba0_1c1,0,none⟩)],.func (.func 31) #[] #[.pointer (some ⟨ba0_1c1,0,none⟩),.pointer (some ⟨ba0_1c0,0,none⟩)],.func (.func 32) #[] #[.pointer (some ⟨ba0_1c0,0,none⟩),.pointer (some ⟨ba0_1c1,0,none⟩)]],.nilFunc]) rfl (n:=4) rfl ?_
  refine sR 2 [.inRegion (opsOf (cd35 [0])) [0,1,2],.code (cd35 [1])] ?_
  refine r_box (c:=(cd35 [0])) (i:=0) (d:=(some 2)) (ty:=0) (x:=(.tmp 0)) (v:=.agg #[.string y9,.func (.func 28) #[] #[.pointer (some ⟨ba0_1c0,0,none⟩),.pointer (some ⟨ba0_1c1,0,none⟩)],.func (.func 31) #[] #[.pointer (some ⟨ba0_1c1,0,none⟩),.pointer (some ⟨ba0_1c0,0,none⟩)],.func (.func 32) #[] #[.pointer (some ⟨ba0_1c0,0,none⟩),.pointer (some ⟨ba0_1c1,0,none⟩)]]) (t:=32) (cs:=[.string y9,.func (.func 28) #[] #[.pointer (some ⟨ba0_1c0,0,none⟩),.pointer (some ⟨ba0_1c1,0,none⟩)],.func (.func 31) #[] #[.pointer (some ⟨ba0_1c1,0,none⟩),.pointer (some ⟨ba0_1c0,0,none⟩)],.func (.func 32) #[] #[.pointer (some ⟨ba0_1c0,0,none⟩),.pointer (some ⟨ba0_1c1,0,none⟩)]]) hS0 (by kernel_rfl) (by kernel_rfl) (by kernel_rfl) (by kernel_rfl) ?_
  intro b1 w2 hS3
  refine r_box (c:=(cd35 [0])) (i:=1) (d:=(some 3)) (ty:=0) (x:=(.tmp 1)) (v:=.nilFunc) (t:=130) (cs:=[.nilFunc]) hS3 (by kernel_rfl) (by kernel_rfl) (by kernel_rfl) (by kernel_rfl) ?_
  intro b5 w6 hS7
  refine sR 7 [.code (cd35 [1,1])] ?_
  have hS9:=hS7.pick7
  have hS10:=hS9.pick7
  have hS11:=hS10.pick7
  have hS12:=hS11.pick7
  have hS13:=hS12.pick7
  have hS14:=hS13.pick7
  have hS15:=hS14.pick6
  have hS16:=hS15.pick7
  refine rR (.func (.func 44) #[] #[.pointer (some ⟨b1,0,none⟩),.pointer (some ⟨b5,0,none⟩)]) Try.func35 ?_
  cases Option.some.inj hp0
  exact hR _ _ ⟨b1,b5,rfl,hS16⟩

noncomputable def cd15 (p : List Nat) : Code := sub (bodyOf Try.f15) p
abbrev p15_0:=cd15 [1,0]
abbrev p15_2:=cd15 [1,1,0]
abbrev p15_3:=cd15 [1,1,1]
def weirlaw14_ExploreWay_1.f (a0 : ByteArray) (a1v : List ByteArray) (a2vm : List (ByteArray × Int)) : Option (Bool × (List ByteArray)) :=
  (if (a1v.length + ([a0] : List ByteArray).length) * 16 ≤ 140737488355328 then (if (((mget a2vm a0).getD (0 : Int)) == 1) = true then some ((true,(a1v ++ ([a0] : List ByteArray)))) else some ((false,(a1v ++ ([a0] : List ByteArray))))) else none)
theorem weirlaw14_ExploreWay_1.ok {a0 : ByteArray} {a1v : List ByteArray} {a2vm : List (ByteArray × Int)} {ba1 : Nat} {Aa1v : Option Addr} {ca1v ba2 ba2v : Nat} {q0 : Bool} {q1 : List ByteArray} (hp0 : weirlaw14_ExploreWay_1.f a0 a1v a2vm = some (q0,q1)) (hS0 : St w0 Z (xblk ba1 36 ([.slice Aa1v a1v.length ca1v])::xrow Aa1v ca1v 9 1 (a1v.flatMap encS)::xblk ba2 41 ([.map (some ba2v)])::xmap ba2v (a2vm.map (kv Value.string (Value.int .i64)))::fs) w) :
    Calls Try.prog 15 #[.string a0,.pointer (some ⟨ba1,0,none⟩),.pointer (some ⟨ba2,0,none⟩)] w (fun e w' => ∃ (QA0 : Option Addr) (Qc0 : Nat),e = .returned (.bool q0) ∧ St w0 Z (xrow QA0 Qc0 9 1 (q1.flatMap encS)::xblk ba1 36 ([.slice QA0 q1.length Qc0])::xblk ba2 41 ([.map (some ba2v)])::xmap ba2v (a2vm.map (kv Value.string (Value.int .i64)))::fs) w'):=by
  refine calls_abs ?_; intro R hR
  unfold weirlaw14_ExploreWay_1.f at hp0
  refine calls_of_runs (fn:=Try.f15) (c:=cd15 []) Try.func15 (by kernel_rfl) (al:=[.string a0,.pointer (some ⟨ba1,0,none⟩),.pointer (some ⟨ba2,0,none⟩)]) rfl (n:=10) rfl ?_
  refine sR 6 [iR p15_0 0 5,.code (cd15 [1,1])] ?_
  refine rL1 36 (.tmp 1) 0 (hS0.blk 0 rfl) ?_
  refine sR 1 [.inRegion (opsOf p15_0) [2,3,4],.code (cd15 [1,1])] ?_
  refine r_lit (c:=p15_0) (i:=2) (d:=(some 7)) (ty:=36) (t:=36) (e:=9) (sz:=1) (n:=1) (parts:=#[(0,(.tmp 6))]) (vs:=[(0,.string a0)]) (z:=zeroOf Try.prog 9) (cs':=([a0] : List ByteArray).flatMap encS) hS0 (by kernel_rfl) (by kernel_rfl) (by kernel_rfl) (by kernel_rfl) (by kernel_rfl) (by decide) (by decide) (by kernel_rfl) rfl (Parts.cons (c:=[.string a0]) (by kernel_rfl) rfl Parts.nil) rfl ?_
  intro b2 w3 hS4
  have hS5:=hS4.pick2
  obtain ⟨g6,hp7⟩:=ite_some hp0
  refine r_append (c:=p15_0) (i:=3) (d:=(some 8)) (ty:=36) (enc:=encS) (e:=9) (u:=9) (t:=36) (t2:=36) (sz:=1) (cp:=ca1v) (A:=Aa1v) (bytes:=16) (xs:=a1v) (ys:=([a0] : List ByteArray)) (s:=(.tmp 5)) (x:=(.tmp 7)) (xv:=.slice (some ⟨b2,0,none⟩) ([a0] : List ByteArray).length 1) (info:=infoOf Try.prog 9) (z:=zeroOf Try.prog 9) (ycs:=([a0] : List ByteArray).flatMap encS) hS5 (by kernel_rfl) (by kernel_rfl) (by kernel_rfl) (by kernel_rfl) (by kernel_rfl) (.inl (by kernel_rfl)) (by kernel_rfl) (by kernel_rfl) (by kernel_rfl) (by kernel_rfl) (by kernel_rfl) (by omega) len_encS one_encS (src_row (hS5.row 1 rfl) (by omega) len_encS) rfl g6 (by omega) ?_
  intro A8 c9 w10 hS11
  have hS13:=hS11.pick2
  refine rS 36 (.tmp 1) (.tmp 8) 0 (.slice A8 (a1v ++ ([a0] : List ByteArray)).length c9) [.slice A8 (a1v ++ ([a0] : List ByteArray)).length c9] [.slice A8 (a1v ++ ([a0] : List ByteArray)).length c9] hS13 ?_
  intro w14 hS15
  refine sR 3 [iR p15_2 0 5,.code p15_3] ?_
  refine rL1 41 (.tmp 2) 0 (hS15.blk 3 rfl) ?_
  refine sR 1 [.inRegion (opsOf p15_2) [2,3,4],.code p15_3] ?_
  refine rV (.lookup 41 (.tmp 9) (.tmp 10) false) (.int .i64 ((mget a2vm a0).getD (0 : Int))) (fun o ho _ => x_lookup1 (eK:=Value.string) (eV:=(Value.int .i64)) (dk:=.string) (b:=ba2v) (t:=41) (kt:=9) (et:=3) (m:=a2vm) (kk:=a0) (z:=(0 : Int)) (hS15.at 4 rfl) key_str (by kernel_rfl) (by kernel_rfl) (by kernel_rfl) (by kernel_rfl) (by kernel_rfl) ho) ?_
  refine sI 1 [.inRegion (opsOf p15_2) [4],.code p15_3] 12 hp7 (fun hp18 => ?_) fun hp26 => ?_
  ·refine sR 2 [.code p15_3] ?_
   have hS19:=hS15.pick2
   have hS20:=hS19.drop
   have hS21:=hS20.pick3
   have hS22:=hS21.pick3
   have hS23:=hS22.pick2
   have hS24:=hS23.pick3
   refine rR (.bool true) Try.func15 ?_
   cases Option.some.inj hp18
   exact hR _ _ ⟨A8,c9,rfl,hS24⟩
  refine sR 2 [.code p15_3] ?_
  have hS27:=hS15.pick2
  have hS28:=hS27.drop
  have hS29:=hS28.pick3
  have hS30:=hS29.pick3
  have hS31:=hS30.pick2
  have hS32:=hS31.pick3
  refine rR (.bool false) Try.func15 ?_
  cases Option.some.inj hp26
  exact hR _ _ ⟨A8,c9,rfl,hS32⟩

noncomputable def cd46 (p : List Nat) : Code := sub (bodyOf Try.f46) p
abbrev td11:List Item:=[.inBlock 0]
abbrev td12:List Item:=.inLoop (cd46 [1,0,0])::td11
abbrev td13:List Item:=.code (cd46 [1,0,0])::td12
def slices_Reverse___api_Pick_api_Pick.l0 (t11 t12 : Int) (t13 : List api_Pick) : Option (List api_Pick) :=
  (if (decide (t11 < t12)) = true then (if 0 ≤ t12 ∧ t12 < (t13.length : Int) then (if 0 ≤ t11 ∧ t11 < (t13.length : Int) then (if 0 ≤ t11 ∧ t11 < (t13.length : Int) then (if 0 ≤ t12 ∧ t12 < (t13.length : Int) then (slices_Reverse___api_Pick_api_Pick.l0 (IntKind.i64.wrap (t11 + 1)) (IntKind.i64.wrap (t12 - 1)) (setl (setl t13 t11 (gt t13 t12)) t12 (gt t13 t11))) else none) else none) else none) else none) else some (t13))
 partial_fixpoint
def slices_Reverse___api_Pick_api_Pick.f (a0 : List api_Pick) : Option (List api_Pick) :=
  (slices_Reverse___api_Pick_api_Pick.l0 0 (IntKind.i64.wrap ((a0.length : Int) - 1)) a0 >>= (fun t4 => some (t4)))
theorem slices_Reverse___api_Pick_api_Pick.ok {a0 : List api_Pick} {Aa0 : Option Addr} {ca0 : Nat} {q0 : List api_Pick} (hp0 : slices_Reverse___api_Pick_api_Pick.f a0 = some q0) (hS0 : St w0 Z (xrow Aa0 ca0 88 3 (a0.flatMap enc_api_Pick)::fs) w) :
    Calls Try.prog 46 #[.slice Aa0 a0.length ca0] w (fun e w' => e = .returned (.tuple #[]) ∧ St w0 Z (xrow Aa0 ca0 88 3 (q0.flatMap enc_api_Pick)::fs) w'):=by
  refine calls_abs ?_; intro R hR
  unfold slices_Reverse___api_Pick_api_Pick.f at hp0
  refine calls_of_runs (fn:=Try.f46) (c:=cd46 []) Try.func46 (by kernel_rfl) (al:=[.slice Aa0 a0.length ca0]) rfl (n:=27) rfl ?_
  refine sR 10 td13 ?_
  obtain ⟨v1,hv2,hp3⟩:=bind_some' hp0
  have J7 : ∀ (t4 : List api_Pick) (he9 : t4 = v1) (l8 : List Value) (w5 : World) (hS6 : St w0 Z (xrow Aa0 ca0 88 3 (t4.flatMap enc_api_Pick)::fs) w5),Runs Try.prog (fx 46) [] (fill (mk 28 []) l8) w5 R:=by
   intro t4 he9 l8 w5 hS6
   subst he9
   try dsimp only at hp3
   refine runs_end (fn:=Try.f46) (v:=.tuple #[]) Try.func46 (by kernel_rfl) ?_
   cases Option.some.inj hp3
   exact hR _ _ ⟨rfl,hS6⟩
  have L22 : ∀ (t11 t12 : Int) (t13 : List api_Pick) (e17 : (List api_Pick)),slices_Reverse___api_Pick_api_Pick.l0 t11 t12 t13 = some e17 → e17 = v1 → ∀ (l16 : List Value) (w14 : World) (hS15 : St w0 Z (xrow Aa0 ca0 88 3 (t13.flatMap enc_api_Pick)::fs) w14),Runs Try.prog (fx 46) td13 (fill (mk 28 [(0,.slice Aa0 t13.length ca0),(2,.int .i64 t11),(3,.int .i64 t12)]) l16) w14 R:=by
   refine slices_Reverse___api_Pick_api_Pick.l0.partial_correctness (fun t11 t12 t13 e17 => e17 = v1 → ∀ (l16 : List Value) (w14 : World) (hS15 : St w0 Z (xrow Aa0 ca0 88 3 (t13.flatMap enc_api_Pick)::fs) w14),Runs Try.prog (fx 46) td13 (fill (mk 28 [(0,.slice Aa0 t13.length ca0),(2,.int .i64 t11),(3,.int .i64 t12)]) l16) w14 R) ?_
   intro rec21 ih20 t11 t12 t13 e17 hb19 he18 l16 w14 hS15
   refine sI 6 (.inRegion (opsOf (cd46 [1,0,0,0,0])) []::.code (cd46 [1,0,0,0,1])::.code (cd46 [1,0,0,1])::td12) 9 hb19 (fun hp25 => ?_) fun hp54 => ?_
   ·refine sR 5 (.code (cd46 [1,0,0,1,0,0])::.inBlock 1::.code (cd46 [1,0,0,1,1])::td12) ?_
    obtain ⟨g26,hp27⟩:=ite_some hp25
    obtain ⟨b28,p29,hA30,-⟩:=(hS15.row 0 rfl).at_ len_api_Pick (by omega) g26.1 g26.2
    obtain ⟨g32,hp33⟩:=ite_some hp27
    obtain ⟨b34,p35,hA36,-⟩:=(hS15.row 0 rfl).at_ len_api_Pick (by omega) g32.1 g32.2
    obtain ⟨g38,hp39⟩:=ite_some hp33
    obtain ⟨b40,p41,hA42,-⟩:=(hS15.row 0 rfl).at_ len_api_Pick (by omega) g38.1 g38.2
    obtain ⟨g44,hp45⟩:=ite_some hp39
    obtain ⟨b46,p47,hA48,-⟩:=(hS15.row 0 rfl).at_ len_api_Pick (by omega) g44.1 g44.2
    refine r_drawnP (S:=Option Unit × Option Unit) (dn:=(fun (st : Option Unit × Option Unit) k => [st.1.isSome,st.2.isSome].getD k true)) (C:=(fun st w' => match st with | (none,none) => St w0 Z (xrow Aa0 ca0 88 3 (t13.flatMap enc_api_Pick)::fs) w' | (none,some _) => False | (some _,none) => St w0 Z (xrow Aa0 ca0 88 3 ((setl t13 t11 (gt t13 t12)).flatMap enc_api_Pick)::fs) w' | (some _,some _) => St w0 Z (xrow Aa0 ca0 88 3 ((setl (setl t13 t11 (gt t13 t12)) t12 (gt t13 t11)).flatMap enc_api_Pick)::fs) w')) (v:=(fun st => match st with | (none,none) => [.slice Aa0 t13.length ca0,.int .i64 t11,.slice Aa0 t13.length ca0,.int .i64 t12,.slice Aa0 t13.length ca0,.int .i64 t12,.pointer (some ⟨b28,p29 + t12.toNat * 3,none⟩),.agg (enc_api_Pick (gt t13 t12)).toArray,.slice Aa0 t13.length ca0,.int .i64 t11,.pointer (some ⟨b34,p35 + t11.toNat * 3,none⟩),.agg (enc_api_Pick (gt t13 t11)).toArray,.pointer (some ⟨b40,p41 + t11.toNat * 3,none⟩),undef,undef,undef] | (none,some _) => [.slice Aa0 t13.length ca0,.int .i64 t11,.slice Aa0 t13.length ca0,.int .i64 t12,.slice Aa0 t13.length ca0,.int .i64 t12,.pointer (some ⟨b28,p29 + t12.toNat * 3,none⟩),.agg (enc_api_Pick (gt t13 t12)).toArray,.slice Aa0 t13.length ca0,.int .i64 t11,.pointer (some ⟨b34,p35 + t11.toNat * 3,none⟩),.agg (enc_api_Pick (gt t13 t11)).toArray,.pointer (some ⟨b40,p41 + t11.toNat * 3,none⟩),undef,undef,undef] | (some _,none) => [.slice Aa0 t13.length ca0,.int .i64 t11,.slice Aa0 t13.length ca0,.int .i64 t12,.slice Aa0 t13.length ca0,.int .i64 t12,.pointer (some ⟨b28,p29 + t12.toNat * 3,none⟩),.agg (enc_api_Pick (gt t13 t12)).toArray,.slice Aa0 t13.length ca0,.int .i64 t11,.pointer (some ⟨b34,p35 + t11.toNat * 3,none⟩),.agg (enc_api_Pick (gt t13 t11)).toArray,.pointer (some ⟨b40,p41 + t11.toNat * 3,none⟩),undef,.pointer (some ⟨b46,p47 + t12.toNat * 3,none⟩),undef] | (some _,some _) => [.slice Aa0 t13.length ca0,.int .i64 t11,.slice Aa0 t13.length ca0,.int .i64 t12,.slice Aa0 t13.length ca0,.int .i64 t12,.pointer (some ⟨b28,p29 + t12.toNat * 3,none⟩),.agg (enc_api_Pick (gt t13 t12)).toArray,.slice Aa0 t13.length ca0,.int .i64 t11,.pointer (some ⟨b34,p35 + t11.toNat * 3,none⟩),.agg (enc_api_Pick (gt t13 t11)).toArray,.pointer (some ⟨b40,p41 + t11.toNat * 3,none⟩),undef,.pointer (some ⟨b46,p47 + t12.toNat * 3,none⟩),undef])) (c:=(cd46 [1,0,0,1,0,0])) (id:=3) (none,none) 13 16 [13,15] [[],[],[],[],[],[],[],[],[],[],[],[],[],[],[0],[0]] [[0,1],[0,1],[1],[1],[0,1],[0,1],[0,1],[0,1],[1],[1],[1],[0,1],[0,1],[1],[1],[]] [] [true,true,true,true,true,true,true,true,true,true,true,true,true,true,true,true] (by kernel_rfl) (by kernel_rfl) (by kernel_rfl) (by kernel_rfl) (by kernel_rfl) (by kernel_rfl) (by kernel_rfl) (by kernel_rfl) (by kernel_rfl) (fun k hk => match k,hk with | 0,_ => rfl | 1,_ => rfl | k + 2,hk => absurd hk (by simp)) hS15.drew ?_ (fun k hk => match k,hk with | 0,_ => rfl | 1,_ => rfl | k + 2,hk => absurd hk (by simp)) ?_ ?_ ?_
    ·intro i hi st w hC hd
     match i,hi with
     | 0,_ => (show _ = _; kernel_rfl)
     | 1,_ => (show _ = _; kernel_rfl)
     | 2,_ => (show _ = _; kernel_rfl)
     | 3,_ => (show _ = _; kernel_rfl)
     | 4,_ => (show _ = _; kernel_rfl)
     | 5,_ => (show _ = _; kernel_rfl)
     | 6,_ => (show _ = _; kernel_rfl)
     | 7,_ => (show _ = _; kernel_rfl)
     | 8,_ => (show _ = _; kernel_rfl)
     | 9,_ => (show _ = _; kernel_rfl)
     | 10,_ => (show _ = _; kernel_rfl)
     | 11,_ => (show _ = _; kernel_rfl)
     | 12,_ => (show _ = _; kernel_rfl)
     | 13,_ => (show _ = _; kernel_rfl)
     | 14,_ => (show _ = _; kernel_rfl)
     | 15,_ => (show _ = _; kernel_rfl)
     | i + 16,hi => exact absurd hi (by omega)
    ·intro i hi he st w hC hd hu
     match i,hi,he with
     | 0,_,_ =>
      rcases st with ⟨_ | _,_ | _⟩
      ·dsimp only at hC
       exact dG (.slice Aa0 t13.length ca0) hC
      ·exact False.elim hC
      ·exact Bool.noConfusion (hu 0 (by decide))
      ·exact Bool.noConfusion (hu 0 (by decide))
     | 1,_,_ =>
      rcases st with ⟨_ | _,_ | _⟩
      ·dsimp only at hC
       exact dG (.int .i64 t11) hC
      ·exact False.elim hC
      ·exact Bool.noConfusion (hu 0 (by decide))
      ·exact Bool.noConfusion (hu 0 (by decide))
     | 2,_,_ =>
      rcases st with ⟨_ | _,_ | _⟩
      ·dsimp only at hC
       exact dG (.slice Aa0 t13.length ca0) hC
      ·exact False.elim hC
      ·dsimp only at hC
       exact dG (.slice Aa0 t13.length ca0) hC
      ·exact Bool.noConfusion (hu 1 (by decide))
     | 3,_,_ =>
      rcases st with ⟨_ | _,_ | _⟩
      ·dsimp only at hC
       exact dG (.int .i64 t12) hC
      ·exact False.elim hC
      ·dsimp only at hC
       exact dG (.int .i64 t12) hC
      ·exact Bool.noConfusion (hu 1 (by decide))
     | 4,_,_ =>
      rcases st with ⟨_ | _,_ | _⟩
      ·dsimp only at hC
       exact dG (.slice Aa0 t13.length ca0) hC
      ·exact False.elim hC
      ·exact Bool.noConfusion (hu 0 (by decide))
      ·exact Bool.noConfusion (hu 0 (by decide))
     | 5,_,_ =>
      rcases st with ⟨_ | _,_ | _⟩
      ·dsimp only at hC
       exact dG (.int .i64 t12) hC
      ·exact False.elim hC
      ·exact Bool.noConfusion (hu 0 (by decide))
      ·exact Bool.noConfusion (hu 0 (by decide))
     | 6,_,_ =>
      rcases st with ⟨_ | _,_ | _⟩
      ·dsimp only at hC
       exact ⟨fun _ => does_run (x_indexAddr (t:=40) (e:=88) (x:=(.tmp 18)) (y:=(.tmp 19)) (b:=b28) (o':=p29) (n:=t13.length) (cp:=ca0) (sz:=3) (kk:=.i64) (j:=t12) (slv (by kernel_rfl) hA30) (by kernel_rfl) (by kernel_rfl) (by kernel_rfl) g26.1 g26.2 (by kernel_rfl)) rfl hC,fun h => absurd h (by decide)⟩
      ·exact False.elim hC
      ·exact Bool.noConfusion (hu 0 (by decide))
      ·exact Bool.noConfusion (hu 0 (by decide))
     | 7,_,_ =>
      rcases st with ⟨_ | _,_ | _⟩
      ·dsimp only at hC
       exact ⟨fun _ => does_run (x_load (t:=88) (x:=(.tmp 20)) (p:=⟨b28,p29 + t12.toNat * 3,none⟩) (v:=.agg (enc_api_Pick (gt t13 t12)).toArray) (by kernel_rfl) (loads_agg ((hC.row 0 rfl).at2 hA30 len_api_Pick (by omega) g26.1 g26.2) (by kernel_rfl) (by kernel_rfl)) (by kernel_rfl)) rfl hC,fun h => absurd h (by decide)⟩
      ·exact False.elim hC
      ·exact Bool.noConfusion (hu 0 (by decide))
      ·exact Bool.noConfusion (hu 0 (by decide))
     | 8,_,_ =>
      rcases st with ⟨_ | _,_ | _⟩
      ·dsimp only at hC
       exact dG (.slice Aa0 t13.length ca0) hC
      ·exact False.elim hC
      ·dsimp only at hC
       exact dG (.slice Aa0 t13.length ca0) hC
      ·exact Bool.noConfusion (hu 1 (by decide))
     | 9,_,_ =>
      rcases st with ⟨_ | _,_ | _⟩
      ·dsimp only at hC
       exact dG (.int .i64 t11) hC
      ·exact False.elim hC
      ·dsimp only at hC
       exact dG (.int .i64 t11) hC
      ·exact Bool.noConfusion (hu 1 (by decide))
     | 10,_,_ =>
      rcases st with ⟨_ | _,_ | _⟩
      ·dsimp only at hC
       exact ⟨fun _ => does_run (x_indexAddr (t:=40) (e:=88) (x:=(.tmp 22)) (y:=(.tmp 23)) (b:=b34) (o':=p35) (n:=t13.length) (cp:=ca0) (sz:=3) (kk:=.i64) (j:=t11) (slv (by kernel_rfl) hA36) (by kernel_rfl) (by kernel_rfl) (by kernel_rfl) g32.1 g32.2 (by kernel_rfl)) rfl hC,fun h => absurd h (by decide)⟩
      ·exact False.elim hC
      ·dsimp only at hC
       exact ⟨fun _ => does_run (x_indexAddr (t:=40) (e:=88) (x:=(.tmp 22)) (y:=(.tmp 23)) (b:=b34) (o':=p35) (n:=t13.length) (cp:=ca0) (sz:=3) (kk:=.i64) (j:=t11) (slv (by kernel_rfl) hA36) (by kernel_rfl) (by kernel_rfl) (by kernel_rfl) g32.1 g32.2 (by kernel_rfl)) rfl hC,fun h => absurd h (by decide)⟩
      ·exact Bool.noConfusion (hu 1 (by decide))
     | 11,_,_ =>
      rcases st with ⟨_ | _,_ | _⟩
      ·dsimp only at hC
       exact ⟨fun _ => does_run (x_load (t:=88) (x:=(.tmp 24)) (p:=⟨b34,p35 + t11.toNat * 3,none⟩) (v:=.agg (enc_api_Pick (gt t13 t11)).toArray) (by kernel_rfl) (loads_agg ((hC.row 0 rfl).at2 hA36 len_api_Pick (by omega) g32.1 g32.2) (by kernel_rfl) (by kernel_rfl)) (by kernel_rfl)) rfl hC,fun h => absurd h (by decide)⟩
      ·exact False.elim hC
      ·exact Bool.noConfusion (hu 0 (by decide))
      ·exact Bool.noConfusion (hu 0 (by decide))
     | 12,_,_ =>
      rcases st with ⟨_ | _,_ | _⟩
      ·dsimp only at hC
       exact ⟨fun _ => does_run (x_indexAddr (t:=40) (e:=88) (x:=(.tmp 14)) (y:=(.tmp 15)) (b:=b40) (o':=p41) (n:=t13.length) (cp:=ca0) (sz:=3) (kk:=.i64) (j:=t11) (slv (by kernel_rfl) hA42) (by kernel_rfl) (by kernel_rfl) (by kernel_rfl) g38.1 g38.2 (by kernel_rfl)) rfl hC,fun h => absurd h (by decide)⟩
      ·exact False.elim hC
      ·exact Bool.noConfusion (hu 0 (by decide))
      ·exact Bool.noConfusion (hu 0 (by decide))
     | 13,_,he => exact absurd he (by decide)
     | 14,_,_ =>
      rcases st with ⟨_ | _,_ | _⟩
      ·exact Bool.noConfusion (hd 0 (by decide))
      ·exact False.elim hC
      ·dsimp only at hC
       exact ⟨fun _ => does_run (x_indexAddr (t:=40) (e:=88) (x:=(.tmp 16)) (y:=(.tmp 17)) (b:=b46) (o':=p47) (n:=t13.length) (cp:=ca0) (sz:=3) (kk:=.i64) (j:=t12) (slv (by kernel_rfl) hA48) (by kernel_rfl) (by kernel_rfl) (by kernel_rfl) g44.1 g44.2 (by kernel_rfl)) rfl hC,fun h => absurd h (by decide)⟩
      ·exact Bool.noConfusion (hu 1 (by decide))
     | 15,_,he => exact absurd he (by decide)
     | i + 16,hi,_ => exact absurd hi (by omega)
    ·intro k hk st w hC hr hm
     match k,hk with
     | 0,_ =>
      rcases st with ⟨_ | _,_ | _⟩
      ·dsimp only at hC
       refine does_storeEl (enc:=enc_api_Pick) (e:=88) (t:=88) (sz:=3) (cp:=ca0) (A:=Aa0) (xs:=t13) (x:=(.tmp 26)) (y:=(.tmp 21)) (el:=gt t13 t11) (el':=(gt t13 t12)) (j:=t11) (off:=0) (b:=b40) (q:=p41) (v:=.agg (enc_api_Pick (gt t13 t12)).toArray) (vs:=enc_api_Pick (gt t13 t12)) (ad:=⟨b40,p41 + t11.toNat * 3,none⟩) hC (by kernel_rfl) (by kernel_rfl) (by kernel_rfl) (by simp) (by kernel_rfl) hA42 g38 rfl len_api_Pick (by kernel_rfl) (by kernel_rfl) (one_api_Pick _) (by rw [len_api_Pick]; omega) (by rw [len_api_Pick]; omega) (by kernel_rfl) ?_
       intro w2 h2
       refine ⟨(some (),none),rfl,?_,?_,.inl rfl,h2⟩
       ·intro m hne; match m,hne with
        | 0,hne => exact absurd rfl hne
        | 1,hne => exact rfl
        | m + 2,_ => exact rfl
       ·intro j hj; match j,hj with
        | 0,hj => exact rfl
        | 1,hj => exact rfl
        | 2,hj => exact rfl
        | 3,hj => exact rfl
        | 4,hj => exact rfl
        | 5,hj => exact rfl
        | 6,hj => exact rfl
        | 7,hj => exact rfl
        | 8,hj => exact rfl
        | 9,hj => exact rfl
        | 10,hj => exact rfl
        | 11,hj => exact rfl
        | 12,hj => exact rfl
        | 13,hj => exact absurd (by decide) hj
        | 14,hj => exact absurd (by decide) hj
        | 15,hj => exact absurd (by decide) hj
        | j + 16,_ => exact rfl
      ·exact False.elim hC
      ·exact Bool.noConfusion hr
      ·exact Bool.noConfusion hr
     | 1,_ =>
      rcases st with ⟨_ | _,_ | _⟩
      ·exact Bool.noConfusion (hm 0 (by decide))
      ·exact False.elim hC
      ·dsimp only at hC
       refine does_storeEl (enc:=enc_api_Pick) (e:=88) (t:=88) (sz:=3) (cp:=ca0) (A:=Aa0) (xs:=(setl t13 t11 (gt t13 t12))) (x:=(.tmp 27)) (y:=(.tmp 25)) (el:=gt (setl t13 t11 (gt t13 t12)) t12) (el':=(gt t13 t11)) (j:=t12) (off:=0) (b:=b46) (q:=p47) (v:=.agg (enc_api_Pick (gt t13 t11)).toArray) (vs:=enc_api_Pick (gt t13 t11)) (ad:=⟨b46,p47 + t12.toNat * 3,none⟩) hC (by kernel_rfl) (by kernel_rfl) (by kernel_rfl) (by simp) (by kernel_rfl) hA48 (by simp only [setl_len]; exact g44) rfl len_api_Pick (by kernel_rfl) (by kernel_rfl) (one_api_Pick _) (by rw [len_api_Pick]; omega) (by rw [len_api_Pick]; omega) (by kernel_rfl) ?_
       intro w2 h2
       refine ⟨(some (),some ()),rfl,?_,?_,.inl rfl,h2⟩
       ·intro m hne; match m,hne with
        | 0,hne => exact rfl
        | 1,hne => exact absurd rfl hne
        | m + 2,_ => exact rfl
       ·intro j hj; match j,hj with
        | 0,hj => exact rfl
        | 1,hj => exact rfl
        | 2,hj => exact rfl
        | 3,hj => exact rfl
        | 4,hj => exact rfl
        | 5,hj => exact rfl
        | 6,hj => exact rfl
        | 7,hj => exact rfl
        | 8,hj => exact rfl
        | 9,hj => exact rfl
        | 10,hj => exact rfl
        | 11,hj => exact rfl
        | 12,hj => exact rfl
        | 13,hj => exact rfl
        | 14,hj => exact rfl
        | 15,hj => exact absurd (by decide) hj
        | j + 16,_ => exact rfl
      ·exact Bool.noConfusion hr
     | k + 2,hk => exact absurd hk (by simp)
    intro st53 w50 hS51 hr52
    rcases st53 with ⟨_ | _,_ | _⟩
    ·exact Bool.noConfusion (hr52 0 (Nat.lt_of_sub_eq_succ rfl))
    ·exact Bool.noConfusion (hr52 0 (Nat.lt_of_sub_eq_succ rfl))
    ·exact Bool.noConfusion (hr52 1 (Nat.lt_of_sub_eq_succ rfl))
    replace hS51 : St w0 Z (xrow Aa0 ca0 88 3 ((setl (setl t13 t11 (gt t13 t12)) t12 (gt t13 t11)).flatMap enc_api_Pick)::fs) w50:=hS51
    refine rF [some (.slice Aa0 t13.length ca0),none,none,none,none,none,none,none,none,none,none,none,none,none,some (.slice Aa0 t13.length ca0),none,some (.slice Aa0 t13.length ca0),none,some (.slice Aa0 t13.length ca0),none,none,none,some (.slice Aa0 t13.length ca0),none,none,none,none,none] ?_
    refine Runs.refill (m':=[some (.slice Aa0 (setl (setl t13 t11 (gt t13 t12)) t12 (gt t13 t11)).length ca0),none,none,none,none,none,none,none,none,none,none,none,none,none,some (.slice Aa0 (setl (setl t13 t11 (gt t13 t12)) t12 (gt t13 t11)).length ca0),none,some (.slice Aa0 (setl (setl t13 t11 (gt t13 t12)) t12 (gt t13 t11)).length ca0),none,some (.slice Aa0 (setl (setl t13 t11 (gt t13 t12)) t12 (gt t13 t11)).length ca0),none,none,none,some (.slice Aa0 (setl (setl t13 t11 (gt t13 t12)) t12 (gt t13 t11)).length ca0),none,none,none,none,none]) (by simp only [setl_len]) ?_
    refine sR 9 td12 ?_
    refine sR 1 td13 ?_
    exact rF _ (ih20 (IntKind.i64.wrap (t11 + 1)) (IntKind.i64.wrap (t12 - 1)) (setl (setl t13 t11 (gt t13 t12)) t12 (gt t13 t11)) _ hp45 he18 _ _ hS51)
   refine sR 3 [] ?_
   exact rF _ (J7 t13 ((Option.some.inj hp54).trans he18) _ _ hS15)
  exact rF _ (L22 0 (IntKind.i64.wrap ((a0.length : Int) - 1)) a0 _ hv2 rfl _ _ hS0)

noncomputable def cd36 (p : List Nat) : Code := sub (bodyOf Try.f36) p
abbrev p36_10:=cd36 [1,1,0,0,0,1,0,1,0]
abbrev p36_11:=cd36 [1,1,0,0,0,1,0,1,1]
abbrev td14:List Item:=[.code (cd36 [1,1,1])]
abbrev td15:List Item:=.inBlock 0::td14
abbrev td16:List Item:=.inLoop (cd36 [1,1,0,0,0])::td15
abbrev td17:List Item:=.code (cd36 [1,1,0,0,0])::td16
abbrev td18:List Item:=.inBlock 1::td16
def explore_way.l0 (a0 : ByteArray) (a2m : List (ByteArray × explore_visit)) (t21 : ByteArray) (t22 : List api_Pick) : Option (List api_Pick) :=
  (if (!seq t21 a0) = true then (if (t22.length + ([((mget a2m t21).getD (⟨0,(⟨#[]⟩ : ByteArray),⟨0,0,0⟩⟩ : explore_visit)).by_] : List api_Pick).length) * 24 ≤ 140737488355328 then (explore_way.l0 a0 a2m (((mget a2m t21).getD (⟨0,(⟨#[]⟩ : ByteArray),⟨0,0,0⟩⟩ : explore_visit)).from_) (t22 ++ ([((mget a2m t21).getD (⟨0,(⟨#[]⟩ : ByteArray),⟨0,0,0⟩⟩ : explore_visit)).by_] : List api_Pick))) else none) else some (t22))
 partial_fixpoint
def explore_way.f (a0 a1 : ByteArray) (a2m : List (ByteArray × explore_visit)) : Option (List api_Pick) :=
  (explore_way.l0 a0 a2m a1 [] >>= (fun t4 => (slices_Reverse___api_Pick_api_Pick.f t4 >>= (fun t13 => (if t13.length = t4.length then some (t13) else none)))))
theorem explore_way.ok {a0 a1 : ByteArray} {a2m : List (ByteArray × explore_visit)} {ba2 : Nat} {q0 : List api_Pick} (hp0 : explore_way.f a0 a1 a2m = some q0) (hS0 : St w0 Z (xmap ba2 (a2m.map (kv Value.string (fun v => Value.agg (enc_explore_visit v).toArray)))::fs) w) :
    Calls Try.prog 36 #[.string a0,.string a1,.map (some ba2)] w (fun e w' => ∃ (QA0 : Option Addr) (Qc0 : Nat),e = .returned (.slice QA0 q0.length Qc0) ∧ St w0 Z (xrow QA0 Qc0 88 3 (q0.flatMap enc_api_Pick)::xmap ba2 (a2m.map (kv Value.string (fun v => Value.agg (enc_explore_visit v).toArray)))::fs) w'):=by
  refine calls_abs ?_; intro R hR
  unfold explore_way.f at hp0
  refine calls_of_runs (fn:=Try.f36) (c:=cd36 []) Try.func36 (by kernel_rfl) (al:=[.string a0,.string a1,.map (some ba2)]) rfl (n:=22) rfl ?_
  refine sR 11 td17 ?_
  obtain ⟨v1,hv2,hp3⟩:=bind_some' hp0
  have J10 : ∀ (t4 : List api_Pick) (he12 : t4 = v1) (l11 : List Value) (A5 : Option Addr) (c6 : Nat) (w8 : World) (hS9 : St w0 Z (xrow A5 c6 88 3 (t4.flatMap enc_api_Pick)::xmap ba2 (a2m.map (kv Value.string (fun v => Value.agg (enc_explore_visit v).toArray)))::fs) w8),Runs Try.prog (fx 36) td14 (fill (mk 25 [(7,.slice A5 t4.length c6)]) l11) w8 R:=by
   intro t4 he12 l11 A5 c6 w8 hS9
   subst he12
   try dsimp only at hp3
   refine sR 3 [.inRegion (opsOf (cd36 [1,1,1,0])) [1],.code (cd36 [1,1,1,1])] ?_
   obtain ⟨t13,hr14,hp15⟩:=bind_some' hp3
   refine rC (slices_Reverse___api_Pick_api_Pick.ok hr14 hS9) ?_
   rintro _ w16 ⟨rfl,hS17⟩
   refine ⟨_,rfl,?_⟩
   obtain ⟨g18,hp19⟩:=ite_some hp15
   refine rF [none,none,none,none,none,none,none,some (.slice A5 t4.length c6),none,none,none,none,none,none,none,none,none,none,none,none,none,none,some (.slice A5 t4.length c6),none,none] ?_
   refine Runs.refill (m':=[none,none,none,none,none,none,none,some (.slice A5 t13.length c6),none,none,none,none,none,none,none,none,none,none,none,none,none,none,some (.slice A5 t13.length c6),none,none]) (by simp only [g18]) ?_
   refine sR 6 [.code (cd36 [1,1,1,1,1])] ?_
   refine rR (.slice A5 t13.length c6) Try.func36 ?_
   cases Option.some.inj hp19
   exact hR _ _ ⟨A5,c6,rfl,hS17⟩
  have L34 : ∀ (t21 : ByteArray) (t22 : List api_Pick) (e29 : (List api_Pick)),explore_way.l0 a0 a2m t21 t22 = some e29 → e29 = v1 → ∀ (l28 : List Value) (A23 : Option Addr) (c24 : Nat) (w26 : World) (hS27 : St w0 Z (xmap ba2 (a2m.map (kv Value.string (fun v => Value.agg (enc_explore_visit v).toArray)))::xrow A23 c24 88 3 (t22.flatMap enc_api_Pick)::fs) w26),Runs Try.prog (fx 36) td17 (fill (mk 25 [(0,.string a0),(1,.string t21),(2,.map (some ba2)),(7,.slice A23 t22.length c24)]) l28) w26 R:=by
   refine explore_way.l0.partial_correctness a0 a2m (fun t21 t22 e29 => e29 = v1 → ∀ (l28 : List Value) (A23 : Option Addr) (c24 : Nat) (w26 : World) (hS27 : St w0 Z (xmap ba2 (a2m.map (kv Value.string (fun v => Value.agg (enc_explore_visit v).toArray)))::xrow A23 c24 88 3 (t22.flatMap enc_api_Pick)::fs) w26),Runs Try.prog (fx 36) td17 (fill (mk 25 [(0,.string a0),(1,.string t21),(2,.map (some ba2)),(7,.slice A23 t22.length c24)]) l28) w26 R) ?_
   intro rec33 ih32 t21 t22 e29 hb31 he30 l28 A23 c24 w26 hS27
   refine sI 6 (.inRegion (opsOf (cd36 [1,1,0,0,0,0,0])) []::.code (cd36 [1,1,0,0,0,0,1])::.code (cd36 [1,1,0,0,0,1])::td16) 11 hb31 (fun hp37 => ?_) fun hp61 => ?_
   ·refine sR 8 (.inRegion (opsOf (cd36 [1,1,0,0,0,1,0,0])) [2,3,4]::.code (cd36 [1,1,0,0,0,1,0,1])::td18) ?_
    refine rV (.lookup 100 (.tmp 12) (.tmp 13) false) (.agg (enc_explore_visit ((mget a2m t21).getD (⟨0,(⟨#[]⟩ : ByteArray),⟨0,0,0⟩⟩ : explore_visit))).toArray) (fun o ho _ => x_lookup1 (eK:=Value.string) (eV:=(fun v => Value.agg (enc_explore_visit v).toArray)) (dk:=.string) (b:=ba2) (t:=100) (kt:=9) (et:=102) (m:=a2m) (kk:=t21) (z:=(⟨0,(⟨#[]⟩ : ByteArray),⟨0,0,0⟩⟩ : explore_visit)) (hS27.at 0 rfl) key_str (by kernel_rfl) (by kernel_rfl) (by kernel_rfl) (by kernel_rfl) (by kernel_rfl) ho) ?_
    refine rA 102 (.agg (enc_explore_visit (⟨0,(⟨#[]⟩ : ByteArray),⟨0,0,0⟩⟩ : explore_visit)).toArray) (enc_explore_visit (⟨0,(⟨#[]⟩ : ByteArray),⟨0,0,0⟩⟩ : explore_visit)) hS27 ?_
    intro b38 w39 hS40
    refine rSA 102 (.tmp 8) (.tmp 14) (enc_explore_visit ((mget a2m t21).getD (⟨0,(⟨#[]⟩ : ByteArray),⟨0,0,0⟩⟩ : explore_visit))) hS40 (one_explore_visit _) ?_
    intro w42 hS43
    refine sR 5 (iR p36_10 2 4::.code p36_11::td18) ?_
    refine rLa 88 (.tmp 16) (sub_explore_visit_by (hS43.blk 0 rfl)) ?_
    refine r_lit (c:=p36_10) (i:=3) (d:=(some 18)) (ty:=40) (t:=40) (e:=88) (sz:=3) (n:=1) (parts:=#[(0,(.tmp 17))]) (vs:=[(0,.agg (enc_api_Pick (((mget a2m t21).getD (⟨0,(⟨#[]⟩ : ByteArray),⟨0,0,0⟩⟩ : explore_visit)).by_)).toArray)]) (z:=zeroOf Try.prog 88) (cs':=([((mget a2m t21).getD (⟨0,(⟨#[]⟩ : ByteArray),⟨0,0,0⟩⟩ : explore_visit)).by_] : List api_Pick).flatMap enc_api_Pick) hS43 (by kernel_rfl) (by kernel_rfl) (by kernel_rfl) (by kernel_rfl) (by kernel_rfl) (by decide) (by decide) (by kernel_rfl) rfl (Parts.cons (c:=enc_api_Pick (((mget a2m t21).getD (⟨0,(⟨#[]⟩ : ByteArray),⟨0,0,0⟩⟩ : explore_visit)).by_)) (by kernel_rfl) (len_api_Pick _) Parts.nil) rfl ?_
    intro b45 w46 hS47
    have hS48:=hS47.pick3
    obtain ⟨g49,hp50⟩:=ite_some hp37
    refine r_append (c:=p36_10) (i:=4) (d:=(some 19)) (ty:=40) (enc:=enc_api_Pick) (e:=88) (u:=88) (t:=40) (t2:=40) (sz:=3) (cp:=c24) (A:=A23) (bytes:=24) (xs:=t22) (ys:=([((mget a2m t21).getD (⟨0,(⟨#[]⟩ : ByteArray),⟨0,0,0⟩⟩ : explore_visit)).by_] : List api_Pick)) (s:=(.tmp 15)) (x:=(.tmp 18)) (xv:=.slice (some ⟨b45,0,none⟩) ([((mget a2m t21).getD (⟨0,(⟨#[]⟩ : ByteArray),⟨0,0,0⟩⟩ : explore_visit)).by_] : List api_Pick).length 1) (info:=infoOf Try.prog 88) (z:=zeroOf Try.prog 88) (ycs:=([((mget a2m t21).getD (⟨0,(⟨#[]⟩ : ByteArray),⟨0,0,0⟩⟩ : explore_visit)).by_] : List api_Pick).flatMap enc_api_Pick) hS48 (by kernel_rfl) (by kernel_rfl) (by kernel_rfl) (by kernel_rfl) (by kernel_rfl) (.inl (by kernel_rfl)) (by kernel_rfl) (by kernel_rfl) (by kernel_rfl) (by kernel_rfl) (by kernel_rfl) (by omega) len_api_Pick one_api_Pick (src_row (hS48.row 1 rfl) (by omega) len_api_Pick) rfl g49 (by omega) ?_
    intro A51 c52 w53 hS54
    refine sR 4 (.inRegion (opsOf p36_11) [1,2]::td18) ?_
    refine rL1 9 (.tmp 20) 1 (hS54.blk 2 rfl) ?_
    refine sR 3 td16 ?_
    have hS56:=hS54.pick1
    have hS57:=hS56.drop
    have hS58:=hS57.pick1
    have hS59:=hS58.drop
    have hS60:=hS59.pick1
    refine sR 1 td17 ?_
    exact rF _ (ih32 (((mget a2m t21).getD (⟨0,(⟨#[]⟩ : ByteArray),⟨0,0,0⟩⟩ : explore_visit)).from_) (t22 ++ ([((mget a2m t21).getD (⟨0,(⟨#[]⟩ : ByteArray),⟨0,0,0⟩⟩ : explore_visit)).by_] : List api_Pick)) _ hp50 he30 _ A51 c52 _ hS60)
   refine sR 3 td14 ?_
   have hS62:=hS27.pick1
   exact rF _ (J10 t22 ((Option.some.inj hp61).trans he30) _ A23 c24 _ hS62)
  have hS64:=hS0.nilrow none 88 3
  have hS65:=hS64.pick1
  exact rF _ (L34 a1 [] _ hv2 rfl _ none 0 _ hS65)

noncomputable def cd14 (p : List Nat) : Code := sub (bodyOf Try.f14) p
abbrev p14_0:=cd14 [1,1,0,1,0,0]
abbrev p14_1:=cd14 [1,1,0,1,0,1]
abbrev p14_2:=cd14 [1,1,0,1,0,1,0,0,1,0,1]
abbrev p14_3:=cd14 [1,1,0,1,0,1,0,0,0]
abbrev p14_4:=cd14 [1,1,0,1,0,1,0,0,1]
abbrev p14_7:=cd14 [1,1,0,1,0,1,0,1,0,0]
abbrev p14_9:=cd14 [1,1,0,1,0,1,0,1,1]
abbrev p14_10:=cd14 [1,1,0,1,0,1,0,1,0,1,0,0]
abbrev td19:List Item:=[.inBlock 1]
abbrev td20:List Item:=.code (cd14 [1,1,0,1,0,1,0,1])::td19
abbrev td21:List Item:=.code p14_9::td19
abbrev td22:List Item:=.code (cd14 [1,1,0,1,0,1,0,1,0,1])::td21
abbrev td23:List Item:=.code (cd14 [1,1,0,1,0,1,0,1,0,1,0,1])::td21
def explore_Way_r.f (a0 : ByteArray) (a1m : List (ByteArray × explore_visit)) (a2v3v_0 : ByteArray) (a2v3v_1c0vv_0m a2v3v_1c0vv_1m a2v3v_1c0vv_2m : List (ByteArray × Int)) (a2v3v_1c0vv_3 : Bool) (a2v3v_1c1v : weirlaw14_Net) (a2v4v : Int) (a2v5vc0v : List ByteArray) (a2v5vc1vm : List (ByteArray × Int)) (a2v7v a2v8v : Int) : Option (Int × (List ByteArray) × (List api_Pick) × Int × Int) :=
  (if (decide (a2v8v ≥ a2v4v)) = true then some ((1,a2v5vc0v,[],1,a2v8v)) else (weirlaw14_ExploreWay_1.f a0 a2v5vc0v a2v5vc1vm >>= (fun (t40,t41) => (if t40 = true then (explore_way.f a2v3v_0 a0 a1m >>= (fun t84 => some ((1,t41,t84,0,a2v8v)))) else some ((0,t41,[],a2v7v,(IntKind.i64.wrap (a2v8v + 1))))))))
theorem explore_Way_r.ok (a0 : ByteArray) (a1m : List (ByteArray × explore_visit)) (a2v3v_0 : ByteArray) (a2v3v_1c0vv_0m a2v3v_1c0vv_1m a2v3v_1c0vv_2m : List (ByteArray × Int)) (a2v3v_1c0vv_3 : Bool) (a2v3v_1c1v : weirlaw14_Net) (a2v4v : Int) (a2v5vc0v : List ByteArray) (a2v5vc1vm : List (ByteArray × Int)) (a2v7v a2v8v : Int) (ba1 La2 Da2 : Nat) (la2 : List Value) (ba2v3 ba2v3v_1c0 : Nat) (ba2v3v_1c0v ba2v3v_1c0vv_0 : Nat) (ba2v3v_1c0vv_1 ba2v3v_1c0vv_2 ba2v3v_1c1 : Nat) (Aa2v3v_1c1v_0 : Option Addr) (ca2v3v_1c1v_0 : Nat) (Aa2v3v_1c1v_1 : Option Addr) (ca2v3v_1c1v_1 : Nat) (Aa2v3v_1c1v_2 : Option Addr) (ca2v3v_1c1v_2 ba2v4 : Nat) (ba2v5 ba2v5vc0 : Nat) (Aa2v5vc0v : Option Addr) (ca2v5vc0v ba2v5vc1 : Nat) (ba2v5vc1v ba2v6 : Nat) (ba2v7 ba2v8 : Nat) (hS0 : St w0 Z (xmap ba1 (a1m.map (kv Value.string (fun v => Value.agg (enc_explore_visit v).toArray)))::xlp La2 14 (fill (mk 28 [(3,.pointer (some ⟨ba2v3,0,none⟩)),(4,.pointer (some ⟨ba2v4,0,none⟩)),(5,.pointer (some ⟨ba2v5,0,none⟩)),(6,.pointer (some ⟨ba2v6,0,none⟩)),(7,.pointer (some ⟨ba2v7,0,none⟩)),(8,.pointer (some ⟨ba2v8,0,none⟩))]) la2) #[13,14] p14_0 p14_1 Da2 [p14_2] 0::xblk ba2v3 32 ([.string a2v3v_0,.func (.func 28) #[] #[.pointer (some ⟨ba2v3v_1c0,0,none⟩),.pointer (some ⟨ba2v3v_1c1,0,none⟩)],.func (.func 31) #[] #[.pointer (some ⟨ba2v3v_1c1,0,none⟩),.pointer (some ⟨ba2v3v_1c0,0,none⟩)],.func (.func 32) #[] #[.pointer (some ⟨ba2v3v_1c0,0,none⟩),.pointer (some ⟨ba2v3v_1c1,0,none⟩)]])::xblk ba2v3v_1c0 33 ([.pointer (some ⟨ba2v3v_1c0v,0,none⟩)])::xblk ba2v3v_1c0v 49 ([.map (some ba2v3v_1c0vv_0),.map (some ba2v3v_1c0vv_1),.map (some ba2v3v_1c0vv_2),.bool a2v3v_1c0vv_3])::xmap ba2v3v_1c0vv_0 (a2v3v_1c0vv_0m.map (kv Value.string (Value.int .i64)))::xmap ba2v3v_1c0vv_1 (a2v3v_1c0vv_1m.map (kv Value.string (Value.int .i64)))::xmap ba2v3v_1c0vv_2 (a2v3v_1c0vv_2m.map (kv Value.string (Value.int .i64)))::xblk ba2v3v_1c1 26 ([.slice Aa2v3v_1c1v_0 a2v3v_1c1v.Next.length ca2v3v_1c1v_0,.slice Aa2v3v_1c1v_1 a2v3v_1c1v.End.length ca2v3v_1c1v_1,.slice Aa2v3v_1c1v_2 a2v3v_1c1v.Value.length ca2v3v_1c1v_2,.int .i64 a2v3v_1c1v.Start])::xblk ba2v4 3 ([.int .i64 a2v4v])::xblk ba2v5 56 ([.func (.func 15) #[] #[.pointer (some ⟨ba2v5vc0,0,none⟩),.pointer (some ⟨ba2v5vc1,0,none⟩)]])::xblk ba2v5vc0 36 ([.slice Aa2v5vc0v a2v5vc0v.length ca2v5vc0v])::xrow Aa2v5vc0v ca2v5vc0v 9 1 (a2v5vc0v.flatMap encS)::xblk ba2v5vc1 41 ([.map (some ba2v5vc1v)])::xmap ba2v5vc1v (a2v5vc1vm.map (kv Value.string (Value.int .i64)))::xblk ba2v6 40 ([.slice none 0 0])::xblk ba2v7 53 ([.int .i64 a2v7v])::xblk ba2v8 3 ([.int .i64 a2v8v])::fs) w) (ha2v3v_1c1v_0 : SlZ (repL (flat (encI .i64)) 1) 1 Z Aa2v3v_1c1v_0 ca2v3v_1c1v_0 a2v3v_1c1v.Next) (ha2v3v_1c1v_1 : SlZ (flat encB) 1 Z Aa2v3v_1c1v_1 ca2v3v_1c1v_1 a2v3v_1c1v.End) (ha2v3v_1c1v_2 : SlZ (flat (encI .i64)) 1 Z Aa2v3v_1c1v_2 ca2v3v_1c1v_2 a2v3v_1c1v.Value) {q0 : Int} {q1 : List ByteArray} {q2 : List api_Pick} {q3 q4 : Int} (hp0 : explore_Way_r.f a0 a1m a2v3v_0 a2v3v_1c0vv_0m a2v3v_1c0vv_1m a2v3v_1c0vv_2m a2v3v_1c0vv_3 a2v3v_1c1v a2v4v a2v5vc0v a2v5vc1vm a2v7v a2v8v = some (q0,q1,q2,q3,q4)) :
    Rounds Try.prog La2 14 (fill (mk 28 [(3,.pointer (some ⟨ba2v3,0,none⟩)),(4,.pointer (some ⟨ba2v4,0,none⟩)),(5,.pointer (some ⟨ba2v5,0,none⟩)),(6,.pointer (some ⟨ba2v6,0,none⟩)),(7,.pointer (some ⟨ba2v7,0,none⟩)),(8,.pointer (some ⟨ba2v8,0,none⟩)),(13,.string a0),(14,.map (some ba1))]) la2).toArray p14_0 p14_1 w (fun e w' => ∃ (QA0 : Option Addr) (Qc0 : Nat) (QA2 : Option Addr) (Qc2 : Nat),e = .returned (.bool (decide (q0 = 0))) ∧ St w0 Z (xrow QA0 Qc0 9 1 (q1.flatMap encS)::xrow QA2 Qc2 88 3 (q2.flatMap enc_api_Pick)::xmap ba1 (a1m.map (kv Value.string (fun v => Value.agg (enc_explore_visit v).toArray)))::xlp La2 14 (fill (mk 28 [(3,.pointer (some ⟨ba2v3,0,none⟩)),(4,.pointer (some ⟨ba2v4,0,none⟩)),(5,.pointer (some ⟨ba2v5,0,none⟩)),(6,.pointer (some ⟨ba2v6,0,none⟩)),(7,.pointer (some ⟨ba2v7,0,none⟩)),(8,.pointer (some ⟨ba2v8,0,none⟩))]) la2) #[13,14] p14_0 p14_1 Da2 [p14_2] q0::xblk ba2v3 32 ([.string a2v3v_0,.func (.func 28) #[] #[.pointer (some ⟨ba2v3v_1c0,0,none⟩),.pointer (some ⟨ba2v3v_1c1,0,none⟩)],.func (.func 31) #[] #[.pointer (some ⟨ba2v3v_1c1,0,none⟩),.pointer (some ⟨ba2v3v_1c0,0,none⟩)],.func (.func 32) #[] #[.pointer (some ⟨ba2v3v_1c0,0,none⟩),.pointer (some ⟨ba2v3v_1c1,0,none⟩)]])::xblk ba2v3v_1c0 33 ([.pointer (some ⟨ba2v3v_1c0v,0,none⟩)])::xblk ba2v3v_1c0v 49 ([.map (some ba2v3v_1c0vv_0),.map (some ba2v3v_1c0vv_1),.map (some ba2v3v_1c0vv_2),.bool a2v3v_1c0vv_3])::xmap ba2v3v_1c0vv_0 (a2v3v_1c0vv_0m.map (kv Value.string (Value.int .i64)))::xmap ba2v3v_1c0vv_1 (a2v3v_1c0vv_1m.map (kv Value.string (Value.int .i64)))::xmap ba2v3v_1c0vv_2 (a2v3v_1c0vv_2m.map (kv Value.string (Value.int .i64)))::xblk ba2v3v_1c1 26 ([.slice Aa2v3v_1c1v_0 a2v3v_1c1v.Next.length ca2v3v_1c1v_0,.slice Aa2v3v_1c1v_1 a2v3v_1c1v.End.length ca2v3v_1c1v_1,.slice Aa2v3v_1c1v_2 a2v3v_1c1v.Value.length ca2v3v_1c1v_2,.int .i64 a2v3v_1c1v.Start])::xblk ba2v4 3 ([.int .i64 a2v4v])::xblk ba2v5 56 ([.func (.func 15) #[] #[.pointer (some ⟨ba2v5vc0,0,none⟩),.pointer (some ⟨ba2v5vc1,0,none⟩)]])::xblk ba2v5vc0 36 ([.slice QA0 q1.length Qc0])::xblk ba2v5vc1 41 ([.map (some ba2v5vc1v)])::xmap ba2v5vc1v (a2v5vc1vm.map (kv Value.string (Value.int .i64)))::xblk ba2v6 40 ([.slice QA2 q2.length Qc2])::xblk ba2v7 53 ([.int .i64 q3])::xblk ba2v8 3 ([.int .i64 q4])::fs) w'):=by
  refine rounds_abs ?_; intro R hR
  unfold explore_Way_r.f at hp0
  refine rounds_of_runs ?_
  refine sR 7 [.beginRound,.code p14_1] ?_
  have hS1:=hS0.pick1
  refine r_begin hS1 ?_
  intro w2 hS3
  refine sR 4 (.inRegion (opsOf p14_3) [0,1,2]::.code p14_4::td20) ?_
  refine rL1 3 (.tmp 8) 0 (hS3.blk 17 rfl) ?_
  refine rL1 3 (.tmp 4) 0 (hS3.blk 9 rfl) ?_
  refine sI 1 (.inRegion (opsOf p14_3) []::.code p14_4::td20) 17 hp0 (fun hp6 => ?_) fun hp39 => ?_
  ·refine sR 4 (.inRegion (opsOf (cd14 [1,1,0,1,0,1,0,0,1,0,0])) [0,1]::.code p14_2::td20) ?_
   have hS7:=hS3.pick15
   refine rS 40 (.tmp 6) (.const (.slice none 0 0)) 0 (.slice none 0 0) [.slice none 0 0] [.slice none 0 0] hS7 ?_
   intro w8 hS9
   have hS10:=hS9.pick16
   refine rS 53 (.tmp 7) (.const (.int .i64 1)) 0 (.int .i64 1) [.int .i64 1] [.int .i64 1] hS10 ?_
   intro w11 hS12
   refine sR 1 (.code p14_2::td20) ?_
   have hS13:=hS12.pick2
   refine r_rret hS13 [p14_2] 0 (by kernel_rfl) ?_
   intro w14 hS15
   have hS16 : St w0 Z (xlp La2 14 (fill (mk 28 [(3,.pointer (some ⟨ba2v3,0,none⟩)),(4,.pointer (some ⟨ba2v4,0,none⟩)),(5,.pointer (some ⟨ba2v5,0,none⟩)),(6,.pointer (some ⟨ba2v6,0,none⟩)),(7,.pointer (some ⟨ba2v7,0,none⟩)),(8,.pointer (some ⟨ba2v8,0,none⟩))]) la2) #[13,14] p14_0 p14_1 Da2 [p14_2] 1::xblk ba2v7 53 ([.int .i64 1])::xblk ba2v6 40 ([.slice none 0 0])::xmap ba1 (a1m.map (kv Value.string (fun v => Value.agg (enc_explore_visit v).toArray)))::xblk ba2v3 32 ([.string a2v3v_0,.func (.func 28) #[] #[.pointer (some ⟨ba2v3v_1c0,0,none⟩),.pointer (some ⟨ba2v3v_1c1,0,none⟩)],.func (.func 31) #[] #[.pointer (some ⟨ba2v3v_1c1,0,none⟩),.pointer (some ⟨ba2v3v_1c0,0,none⟩)],.func (.func 32) #[] #[.pointer (some ⟨ba2v3v_1c0,0,none⟩),.pointer (some ⟨ba2v3v_1c1,0,none⟩)]])::xblk ba2v3v_1c0 33 ([.pointer (some ⟨ba2v3v_1c0v,0,none⟩)])::xblk ba2v3v_1c0v 49 ([.map (some ba2v3v_1c0vv_0),.map (some ba2v3v_1c0vv_1),.map (some ba2v3v_1c0vv_2),.bool a2v3v_1c0vv_3])::xmap ba2v3v_1c0vv_0 (a2v3v_1c0vv_0m.map (kv Value.string (Value.int .i64)))::xmap ba2v3v_1c0vv_1 (a2v3v_1c0vv_1m.map (kv Value.string (Value.int .i64)))::xmap ba2v3v_1c0vv_2 (a2v3v_1c0vv_2m.map (kv Value.string (Value.int .i64)))::xblk ba2v3v_1c1 26 ([.slice Aa2v3v_1c1v_0 a2v3v_1c1v.Next.length ca2v3v_1c1v_0,.slice Aa2v3v_1c1v_1 a2v3v_1c1v.End.length ca2v3v_1c1v_1,.slice Aa2v3v_1c1v_2 a2v3v_1c1v.Value.length ca2v3v_1c1v_2,.int .i64 a2v3v_1c1v.Start])::xblk ba2v4 3 ([.int .i64 a2v4v])::xblk ba2v5 56 ([.func (.func 15) #[] #[.pointer (some ⟨ba2v5vc0,0,none⟩),.pointer (some ⟨ba2v5vc1,0,none⟩)]])::xblk ba2v5vc0 36 ([.slice Aa2v5vc0v a2v5vc0v.length ca2v5vc0v])::xrow Aa2v5vc0v ca2v5vc0v 9 1 (a2v5vc0v.flatMap encS)::xblk ba2v5vc1 41 ([.map (some ba2v5vc1v)])::xmap ba2v5vc1v (a2v5vc1vm.map (kv Value.string (Value.int .i64)))::xblk ba2v8 3 ([.int .i64 a2v8v])::fs) w14:=hS15
   have hS18:=hS16.nilrow none 88 3
   have hS19:=hS18.pick18
   have hS20:=hS19.pick3
   have hS21:=hS20.pick4
   have hS22:=hS21.pick18
   have hS23:=hS22.pick18
   have hS24:=hS23.pick17
   have hS25:=hS24.pick17
   have hS26:=hS25.pick17
   have hS27:=hS26.pick17
   have hS28:=hS27.pick17
   have hS29:=hS28.pick17
   have hS30:=hS29.pick17
   have hS31:=hS30.pick17
   have hS32:=hS31.pick17
   have hS33:=hS32.pick17
   have hS34:=hS33.pick16
   have hS35:=hS34.pick17
   have hS36:=hS35.pick17
   have hS37:=hS36.pick18
   cases Option.some.inj hp6
   exact hR _ _ ⟨Aa2v5vc0v,ca2v5vc0v,none,0,rfl,hS37⟩
  refine sR 6 (.inRegion (opsOf p14_7) [0,1,2]::td22) ?_
  refine rL1 56 (.tmp 5) 0 (hS3.blk 10 rfl) ?_
  refine sR 1 (.inRegion (opsOf p14_7) [2]::td22) ?_
  obtain ⟨⟨t40,t41⟩,hr44,hp45⟩:=bind_some' hp39
  try dsimp only at hp45
  have hS47:=hS3.pick14
  have hS48:=hS47.pick14
  have hS49:=hS48.pick14
  have hS50:=hS49.pick14
  refine rC (weirlaw14_ExploreWay_1.ok hr44 hS50) ?_
  rintro _ w51 ⟨Q42,Q43,rfl,hS52⟩
  refine ⟨_,rfl,?_⟩
  refine sR 1 td22 ?_
  cases t40
  ·have hp53:=ite_f hp45 rfl
   refine sR 3 (.inRegion (opsOf p14_9) [0,1,2]::td19) ?_
   refine rL1 3 (.tmp 8) 0 (hS52.blk 17 rfl) ?_
   refine sR 1 (.inRegion (opsOf p14_9) [2]::td19) ?_
   have hS54:=hS52.pick17
   refine rS 3 (.tmp 8) (.tmp 27) 0 (.int .i64 (IntKind.i64.wrap (a2v8v + 1))) [.int .i64 (IntKind.i64.wrap (a2v8v + 1))] [.int .i64 (IntKind.i64.wrap (a2v8v + 1))] hS54 ?_
   intro w55 hS56
   refine sR 2 [] ?_
   have hS57:=hS56.pick5
   refine r_rend hS57 [p14_2] ?_
   intro w58 hS59
   have hS60 : St w0 Z (xlp La2 14 (fill (mk 28 [(3,.pointer (some ⟨ba2v3,0,none⟩)),(4,.pointer (some ⟨ba2v4,0,none⟩)),(5,.pointer (some ⟨ba2v5,0,none⟩)),(6,.pointer (some ⟨ba2v6,0,none⟩)),(7,.pointer (some ⟨ba2v7,0,none⟩)),(8,.pointer (some ⟨ba2v8,0,none⟩))]) la2) #[13,14] p14_0 p14_1 Da2 [p14_2] 0::xblk ba2v8 3 ([.int .i64 (IntKind.i64.wrap (a2v8v + 1))])::xrow Q42 Q43 9 1 (t41.flatMap encS)::xblk ba2v5vc0 36 ([.slice Q42 t41.length Q43])::xblk ba2v5vc1 41 ([.map (some ba2v5vc1v)])::xmap ba2v5vc1v (a2v5vc1vm.map (kv Value.string (Value.int .i64)))::xmap ba1 (a1m.map (kv Value.string (fun v => Value.agg (enc_explore_visit v).toArray)))::xblk ba2v3 32 ([.string a2v3v_0,.func (.func 28) #[] #[.pointer (some ⟨ba2v3v_1c0,0,none⟩),.pointer (some ⟨ba2v3v_1c1,0,none⟩)],.func (.func 31) #[] #[.pointer (some ⟨ba2v3v_1c1,0,none⟩),.pointer (some ⟨ba2v3v_1c0,0,none⟩)],.func (.func 32) #[] #[.pointer (some ⟨ba2v3v_1c0,0,none⟩),.pointer (some ⟨ba2v3v_1c1,0,none⟩)]])::xblk ba2v3v_1c0 33 ([.pointer (some ⟨ba2v3v_1c0v,0,none⟩)])::xblk ba2v3v_1c0v 49 ([.map (some ba2v3v_1c0vv_0),.map (some ba2v3v_1c0vv_1),.map (some ba2v3v_1c0vv_2),.bool a2v3v_1c0vv_3])::xmap ba2v3v_1c0vv_0 (a2v3v_1c0vv_0m.map (kv Value.string (Value.int .i64)))::xmap ba2v3v_1c0vv_1 (a2v3v_1c0vv_1m.map (kv Value.string (Value.int .i64)))::xmap ba2v3v_1c0vv_2 (a2v3v_1c0vv_2m.map (kv Value.string (Value.int .i64)))::xblk ba2v3v_1c1 26 ([.slice Aa2v3v_1c1v_0 a2v3v_1c1v.Next.length ca2v3v_1c1v_0,.slice Aa2v3v_1c1v_1 a2v3v_1c1v.End.length ca2v3v_1c1v_1,.slice Aa2v3v_1c1v_2 a2v3v_1c1v.Value.length ca2v3v_1c1v_2,.int .i64 a2v3v_1c1v.Start])::xblk ba2v4 3 ([.int .i64 a2v4v])::xblk ba2v5 56 ([.func (.func 15) #[] #[.pointer (some ⟨ba2v5vc0,0,none⟩),.pointer (some ⟨ba2v5vc1,0,none⟩)]])::xblk ba2v6 40 ([.slice none 0 0])::xblk ba2v7 53 ([.int .i64 a2v7v])::fs) w58:=hS59
   have hS62:=hS60.nilrow none 88 3
   have hS63:=hS62.pick2
   have hS64:=hS63.pick18
   have hS65:=hS64.pick18
   have hS66:=hS65.pick8
   have hS67:=hS66.pick8
   have hS68:=hS67.pick8
   have hS69:=hS68.pick18
   have hS70:=hS69.pick18
   have hS71:=hS70.pick18
   have hS72:=hS71.pick18
   have hS73:=hS72.pick18
   have hS74:=hS73.pick18
   have hS75:=hS74.pick18
   have hS76:=hS75.pick18
   have hS77:=hS76.pick18
   have hS78:=hS77.pick16
   have hS79:=hS78.pick18
   have hS80:=hS79.pick17
   have hS81:=hS80.pick18
   cases Option.some.inj hp53
   exact hR _ _ ⟨Q42,Q43,none,0,rfl,hS81⟩
  have hp83:=ite_t hp45 rfl
  refine sR 4 (iR p14_10 1 6::td23) ?_
  refine rL1 9 (.tmp 21) 0 (hS52.blk 6 rfl) ?_
  refine sR 2 (.inRegion (opsOf p14_10) [4,5,6]::td23) ?_
  obtain ⟨t84,hr87,hp88⟩:=bind_some' hp83
  have hS90:=hS52.pick5
  refine rC (explore_way.ok hr87 hS90) ?_
  rintro _ w91 ⟨Q85,Q86,rfl,hS92⟩
  refine ⟨_,rfl,?_⟩
  have hS93:=hS92.pick16
  refine rS 40 (.tmp 6) (.tmp 25) 0 (.slice Q85 t84.length Q86) [.slice Q85 t84.length Q86] [.slice Q85 t84.length Q86] hS93 ?_
  intro w94 hS95
  have hS96:=hS95.pick17
  refine rS 53 (.tmp 7) (.const (.int .i64 0)) 0 (.int .i64 0) [.int .i64 0] [.int .i64 0] hS96 ?_
  intro w97 hS98
  refine sR 1 td23 ?_
  have hS99:=hS98.pick8
  refine r_rret hS99 [p14_2] 0 (by kernel_rfl) ?_
  intro w100 hS101
  have hS102 : St w0 Z (xlp La2 14 (fill (mk 28 [(3,.pointer (some ⟨ba2v3,0,none⟩)),(4,.pointer (some ⟨ba2v4,0,none⟩)),(5,.pointer (some ⟨ba2v5,0,none⟩)),(6,.pointer (some ⟨ba2v6,0,none⟩)),(7,.pointer (some ⟨ba2v7,0,none⟩)),(8,.pointer (some ⟨ba2v8,0,none⟩))]) la2) #[13,14] p14_0 p14_1 Da2 [p14_2] 1::xblk ba2v7 53 ([.int .i64 0])::xblk ba2v6 40 ([.slice Q85 t84.length Q86])::xrow Q85 Q86 88 3 (t84.flatMap enc_api_Pick)::xmap ba1 (a1m.map (kv Value.string (fun v => Value.agg (enc_explore_visit v).toArray)))::xrow Q42 Q43 9 1 (t41.flatMap encS)::xblk ba2v5vc0 36 ([.slice Q42 t41.length Q43])::xblk ba2v5vc1 41 ([.map (some ba2v5vc1v)])::xmap ba2v5vc1v (a2v5vc1vm.map (kv Value.string (Value.int .i64)))::xblk ba2v3 32 ([.string a2v3v_0,.func (.func 28) #[] #[.pointer (some ⟨ba2v3v_1c0,0,none⟩),.pointer (some ⟨ba2v3v_1c1,0,none⟩)],.func (.func 31) #[] #[.pointer (some ⟨ba2v3v_1c1,0,none⟩),.pointer (some ⟨ba2v3v_1c0,0,none⟩)],.func (.func 32) #[] #[.pointer (some ⟨ba2v3v_1c0,0,none⟩),.pointer (some ⟨ba2v3v_1c1,0,none⟩)]])::xblk ba2v3v_1c0 33 ([.pointer (some ⟨ba2v3v_1c0v,0,none⟩)])::xblk ba2v3v_1c0v 49 ([.map (some ba2v3v_1c0vv_0),.map (some ba2v3v_1c0vv_1),.map (some ba2v3v_1c0vv_2),.bool a2v3v_1c0vv_3])::xmap ba2v3v_1c0vv_0 (a2v3v_1c0vv_0m.map (kv Value.string (Value.int .i64)))::xmap ba2v3v_1c0vv_1 (a2v3v_1c0vv_1m.map (kv Value.string (Value.int .i64)))::xmap ba2v3v_1c0vv_2 (a2v3v_1c0vv_2m.map (kv Value.string (Value.int .i64)))::xblk ba2v3v_1c1 26 ([.slice Aa2v3v_1c1v_0 a2v3v_1c1v.Next.length ca2v3v_1c1v_0,.slice Aa2v3v_1c1v_1 a2v3v_1c1v.End.length ca2v3v_1c1v_1,.slice Aa2v3v_1c1v_2 a2v3v_1c1v.Value.length ca2v3v_1c1v_2,.int .i64 a2v3v_1c1v.Start])::xblk ba2v4 3 ([.int .i64 a2v4v])::xblk ba2v5 56 ([.func (.func 15) #[] #[.pointer (some ⟨ba2v5vc0,0,none⟩),.pointer (some ⟨ba2v5vc1,0,none⟩)]])::xblk ba2v8 3 ([.int .i64 a2v8v])::fs) w100:=hS101
  have hS103:=hS102.pick18
  have hS104:=hS103.pick2
  have hS105:=hS104.pick3
  have hS106:=hS105.pick9
  have hS107:=hS106.pick9
  have hS108:=hS107.pick9
  have hS109:=hS108.pick18
  have hS110:=hS109.pick18
  have hS111:=hS110.pick18
  have hS112:=hS111.pick18
  have hS113:=hS112.pick18
  have hS114:=hS113.pick18
  have hS115:=hS114.pick18
  have hS116:=hS115.pick18
  have hS117:=hS116.pick18
  have hS118:=hS117.pick15
  have hS119:=hS118.pick17
  have hS120:=hS119.pick17
  have hS121:=hS120.pick18
  cases Option.some.inj hp88
  exact hR _ _ ⟨Q42,Q43,Q85,Q86,rfl,hS121⟩

noncomputable def cd29 (p : List Nat) : Code := sub (bodyOf Try.f29) p
abbrev p29_2:=cd29 [1,0,0]
abbrev p29_10:=cd29 [1,1,1,1]
abbrev td24:List Item:=[.code (cd29 [1,0,1]),.code (cd29 [1,1])]
def weirlaw14_Net__number.f (a0 : weirlaw14_Net) (a1 : ByteArray) : Option Int :=
  (if ((a1.size : Int) != 3) = true then some ((-1)) else (if 0 ≤ (0 : Int) ∧ (0 : Int) < (a1.size : Int) then (if ((byt a1 (0 : Int)) != 115) = true then some ((-1)) else (if 0 ≤ (1 : Int) ∧ (1 : Int) < (a1.size : Int) then (if 0 ≤ (2 : Int) ∧ (2 : Int) < (a1.size : Int) then (if (decide ((IntKind.i64.wrap ((shlI .i64 (IntKind.i64.wrap (byt a1 (1 : Int))) 8) + (IntKind.i64.wrap (byt a1 (2 : Int))))) ≥ (a0.Next.length : Int))) = true then some ((-1)) else some ((IntKind.i64.wrap ((shlI .i64 (IntKind.i64.wrap (byt a1 (1 : Int))) 8) + (IntKind.i64.wrap (byt a1 (2 : Int))))))) else none) else none)) else none))
theorem weirlaw14_Net__number.ok {a0 : weirlaw14_Net} {a1 : ByteArray} {y0 : Option Addr} {y1 : Nat} {y2 : Option Addr} {y3 : Nat} {y4 : Option Addr} {y5 : Nat} {q0 : Int} (hp0 : weirlaw14_Net__number.f a0 a1 = some q0) (hS0 : St w0 Z (fs) w) (y6 : SlZ (repL (flat (encI .i64)) 1) 1 Z y0 y1 a0.Next) (y7 : SlZ (flat encB) 1 Z y2 y3 a0.End) (y8 : SlZ (flat (encI .i64)) 1 Z y4 y5 a0.Value) :
    Calls Try.prog 29 #[.agg #[.slice y0 a0.Next.length y1,.slice y2 a0.End.length y3,.slice y4 a0.Value.length y5,.int .i64 a0.Start],.string a1] w (fun e w' => e = .returned (.int .i64 q0) ∧ St w0 Z (fs) w'):=by
  refine calls_abs ?_; intro R hR
  unfold weirlaw14_Net__number.f at hp0
  refine calls_of_runs (fn:=Try.f29) (c:=cd29 []) Try.func29 (by kernel_rfl) (al:=[.agg #[.slice y0 a0.Next.length y1,.slice y2 a0.End.length y3,.slice y4 a0.Value.length y5,.int .i64 a0.Start],.string a1]) rfl (n:=26) rfl ?_
  refine sR 2 [.inRegion (opsOf (cd29 [0])) [0,1],.code (cd29 [1])] ?_
  refine r_box (c:=(cd29 [0])) (i:=0) (d:=(some 2)) (ty:=0) (x:=(.tmp 0)) (v:=.agg #[.slice y0 a0.Next.length y1,.slice y2 a0.End.length y3,.slice y4 a0.Value.length y5,.int .i64 a0.Start]) (t:=26) (cs:=[.slice y0 a0.Next.length y1,.slice y2 a0.End.length y3,.slice y4 a0.Value.length y5,.int .i64 a0.Start]) hS0 (by kernel_rfl) (by kernel_rfl) (by kernel_rfl) (by kernel_rfl) ?_
  intro b1 w2 hS3
  refine sI 8 (iR p29_2 3 5::td24) 8 hp0 (fun hp7 => ?_) fun hp10 => ?_
  ·refine sR 11 [.code (cd29 [1,0,1,0,1]),.code (cd29 [1,1])] ?_
   have hS8:=hS3.drop
   refine rR (.int .i64 (-1)) Try.func29 ?_
   cases Option.some.inj hp7
   exact hR _ _ ⟨rfl,hS8⟩
  refine sR 2 (.inRegion (opsOf p29_2) [5,6,7]::td24) ?_
  obtain ⟨g11,hp12⟩:=ite_some hp10
  refine rV (.index 9 (.tmp 10) (.const (.int .i64 0))) (.int .u8 (byt a1 (0 : Int))) (fun o ho _ => x_indexStr (kk:=.i64) (by kernel_rfl) (by kernel_rfl) (by kernel_rfl) g11.1 g11.2 ho) ?_
  refine sI 1 (.inRegion (opsOf p29_2) [7]::td24) 12 hp12 (fun hp15 => ?_) fun hp18 => ?_
  ·refine sR 7 [.code (cd29 [1,0,1,0,1]),.code (cd29 [1,1])] ?_
   have hS16:=hS3.drop
   refine rR (.int .i64 (-1)) Try.func29 ?_
   cases Option.some.inj hp15
   exact hR _ _ ⟨rfl,hS16⟩
  refine sR 5 [.code (cd29 [1,1,0]),.code (cd29 [1,1,1])] ?_
  refine r_quiet hS3 (c:=(cd29 [1,1,0])) (id:=3) (by kernel_rfl) (by kernel_rfl) (by kernel_rfl) (is:=[0,1,2,3,4,5,6,7,8]) (by kernel_rfl) ?_
  refine qR 1 (rg 1 8) ?_
  obtain ⟨g19,hp20⟩:=ite_some hp18
  refine qV (.index 9 (.tmp 14) (.const (.int .i64 1))) (.int .u8 (byt a1 (1 : Int))) (fun w hC o ho _ => x_indexStr (kk:=.i64) (by kernel_rfl) (by kernel_rfl) (by kernel_rfl) g19.1 g19.2 ho) ?_
  refine qR 3 (rg 5 4) ?_
  obtain ⟨g21,hp22⟩:=ite_some hp20
  refine qV (.index 9 (.tmp 18) (.const (.int .i64 2))) (.int .u8 (byt a1 (2 : Int))) (fun w hC o ho _ => x_indexStr (kk:=.i64) (by kernel_rfl) (by kernel_rfl) (by kernel_rfl) g21.1 g21.2 ho) ?_
  refine qR 3 [] ?_
  refine Qs.nil ?_
  intro w23 hS24
  refine sR 5 [.inRegion (opsOf (cd29 [1,1,1,0,0])) [2,3,4],.code (cd29 [1,1,1,0,1]),.code p29_10] ?_
  refine rL1 22 (.tmp 23) 0 (hS24.blk 0 rfl) ?_
  refine sI 2 [.inRegion (opsOf (cd29 [1,1,1,0,0])) [],.code (cd29 [1,1,1,0,1]),.code p29_10] 26 hp22 (fun hp27 => ?_) fun hp30 => ?_
  ·refine sR 6 [.code (cd29 [1,1,1,0,1,0,1]),.code p29_10] ?_
   have hS28:=hS24.drop
   refine rR (.int .i64 (-1)) Try.func29 ?_
   cases Option.some.inj hp27
   exact hR _ _ ⟨rfl,hS28⟩
  refine sR 8 [.code (cd29 [1,1,1,1,1])] ?_
  have hS31:=hS24.drop
  refine rR (.int .i64 (IntKind.i64.wrap ((shlI .i64 (IntKind.i64.wrap (byt a1 (1 : Int))) 8) + (IntKind.i64.wrap (byt a1 (2 : Int)))))) Try.func29 ?_
  cases Option.some.inj hp30
  exact hR _ _ ⟨rfl,hS31⟩

noncomputable def cd30 (p : List Nat) : Code := sub (bodyOf Try.f30) p
def weirlaw14_pick.f (a0 a1 : Int) : Option api_Pick :=
  some ((⟨a0,(IntKind.i64.wrap ((a1.tmod 3) + 1)),a1⟩ : api_Pick))
theorem weirlaw14_pick.ok {a0 a1 : Int} {q0 : api_Pick} (hp0 : weirlaw14_pick.f a0 a1 = some q0) (hS0 : St w0 Z (fs) w) :
    Calls Try.prog 30 #[.int .i64 a0,.int .i64 a1] w (fun e w' => e = .returned (.agg (enc_api_Pick q0).toArray) ∧ St w0 Z (fs) w'):=by
  refine calls_abs ?_; intro R hR
  unfold weirlaw14_pick.f at hp0
  refine calls_of_runs (fn:=Try.f30) (c:=cd30 []) Try.func30 (by kernel_rfl) (al:=[.int .i64 a0,.int .i64 a1]) rfl (n:=9) rfl ?_
  refine sR 2 [.inRegion (opsOf (cd30 [0])) [0],.code (cd30 [1])] ?_
  refine rA 88 (.agg (enc_api_Pick (⟨0,0,0⟩ : api_Pick)).toArray) (enc_api_Pick (⟨0,0,0⟩ : api_Pick)) hS0 ?_
  intro b1 w2 hS3
  refine sR 9 [.inRegion (opsOf (cd30 [1,0])) [6],.code (cd30 [1,1])] ?_
  refine rSA 88 (.tmp 4) (.tmp 10) (enc_api_Pick (⟨a0,(IntKind.i64.wrap ((a1.tmod 3) + 1)),a1⟩ : api_Pick)) hS3 (one_api_Pick _) ?_
  intro w5 hS6
  refine sR 1 [.code (cd30 [1,1])] ?_
  have hS7:=hS6.drop
  refine rRc (.agg (enc_api_Pick (⟨a0,(IntKind.i64.wrap ((a1.tmod 3) + 1)),a1⟩ : api_Pick)).toArray) (.ca 4 88 (hS6.blk 0 rfl) .nil) Try.func30 ?_
  cases Option.some.inj hp0
  exact hR _ _ ⟨rfl,hS7⟩

noncomputable def cd28 (p : List Nat) : Code := sub (bodyOf Try.f28) p
abbrev p28_0:=cd28 [1,0]
abbrev p28_1:=cd28 [1,1]
abbrev p28_4:=cd28 [1,1,1,0,0]
abbrev p28_11:=cd28 [1,1,1,1,1,0]
abbrev p28_12:=cd28 [1,1,1,1,1,1]
abbrev p28_13:=cd28 [1,1,1,1,1,1,0,1,0,0]
abbrev p28_19:=cd28 [1,1,1,1,1,1,0,1,0,0,1,0,0]
abbrev td25:List Item:=[.code (cd28 [1,1,1,1])]
abbrev td26:List Item:=.code (cd28 [1,1,1,0,1])::td25
abbrev td27:List Item:=[.code (cd28 [1,1,1,1,1,1,1])]
abbrev td28:List Item:=.inBlock 0::td27
abbrev td29:List Item:=.inLoop p28_13::td28
abbrev td30:List Item:=.code p28_13::td29
def weirlaw14_Net__machine_1.l0 (t4 t70 : Int) (t71 : List api_Pick) : Option (List api_Pick) :=
  (if (decide (t70 < (t71.length : Int))) = true then (weirlaw14_pick.f t4 t70 >>= (fun t84 => (if 0 ≤ t70 ∧ t70 < (t71.length : Int) then (weirlaw14_Net__machine_1.l0 t4 (IntKind.i64.wrap (t70 + 1)) (setl t71 t70 t84)) else none))) else some (t71))
 partial_fixpoint
def weirlaw14_Net__machine_1.f (a0 : ByteArray) (a1vv_0m a1vv_1m a1vv_2m : List (ByteArray × Int)) (a1vv_3 : Bool) (a2v : weirlaw14_Net) : Option ((List api_Pick) × Bool × (List (ByteArray × Int))) :=
  (weirlaw14_Net__number.f a2v a0 >>= (fun t4 => (((if (decide (((mget (mput a1vv_0m a0 (IntKind.i64.wrap (((mget a1vv_0m a0).getD (0 : Int)) + 1))) a0).getD (0 : Int)) > 1)) = true then some (true) else (if (decide (t4 < 0)) = true then some (true) else some (false))) : Option Bool) >>= (fun t12 => (((if t12 = true then some (true) else some (a1vv_3)) : Option Bool) >>= (fun t21 => (if (decide (t4 < 0)) = true then some (([],t21,(mput a1vv_0m a0 (IntKind.i64.wrap (((mget a1vv_0m a0).getD (0 : Int)) + 1))))) else (if 0 ≤ t4 ∧ t4 < (a2v.Next.length : Int) then (if 0 ≤ ((gt a2v.Next t4).length : Int) ∧ ((gt a2v.Next t4).length : Int) * 24 ≤ 140737488355328 then (weirlaw14_Net__machine_1.l0 t4 0 (List.replicate ((gt a2v.Next t4).length : Int).toNat (⟨0,0,0⟩ : api_Pick)) >>= (fun t63 => some ((t63,t21,(mput a1vv_0m a0 (IntKind.i64.wrap (((mget a1vv_0m a0).getD (0 : Int)) + 1))))))) else none) else none))))))))
theorem weirlaw14_Net__machine_1.ok {a0 : ByteArray} {a1vv_0m a1vv_1m a1vv_2m : List (ByteArray × Int)} {a1vv_3 : Bool} {a2v : weirlaw14_Net} {ba1 ba1v : Nat} {ba1vv_0 ba1vv_1 : Nat} {ba1vv_2 ba2 : Nat} {y10 : Option Addr} {y11 : Nat} {y12 : Option Addr} {y13 : Nat} {y14 : Option Addr} {y15 : Nat} {q0 : List api_Pick} {q1 : Bool} {q2 : List (ByteArray × Int)} (hp0 : weirlaw14_Net__machine_1.f a0 a1vv_0m a1vv_1m a1vv_2m a1vv_3 a2v = some (q0,q1,q2)) (hS0 : St w0 Z (xblk ba1 33 ([.pointer (some ⟨ba1v,0,none⟩)])::xblk ba1v 49 ([.map (some ba1vv_0),.map (some ba1vv_1),.map (some ba1vv_2),.bool a1vv_3])::xmap ba1vv_0 (a1vv_0m.map (kv Value.string (Value.int .i64)))::xmap ba1vv_1 (a1vv_1m.map (kv Value.string (Value.int .i64)))::xmap ba1vv_2 (a1vv_2m.map (kv Value.string (Value.int .i64)))::xblk ba2 26 ([.slice y10 a2v.Next.length y11,.slice y12 a2v.End.length y13,.slice y14 a2v.Value.length y15,.int .i64 a2v.Start])::fs) w) (y16 : SlZ (repL (flat (encI .i64)) 1) 1 Z y10 y11 a2v.Next) (y17 : SlZ (flat encB) 1 Z y12 y13 a2v.End) (y18 : SlZ (flat (encI .i64)) 1 Z y14 y15 a2v.Value) :
    Calls Try.prog 28 #[.string a0,.pointer (some ⟨ba1,0,none⟩),.pointer (some ⟨ba2,0,none⟩)] w (fun e w' => ∃ (QA0 : Option Addr) (Qc0 : Nat),e = .returned (.slice QA0 q0.length Qc0) ∧ St w0 Z (xrow QA0 Qc0 88 3 (q0.flatMap enc_api_Pick)::xblk ba1 33 ([.pointer (some ⟨ba1v,0,none⟩)])::xblk ba1v 49 ([.map (some ba1vv_0),.map (some ba1vv_1),.map (some ba1vv_2),.bool q1])::xmap ba1vv_0 (q2.map (kv Value.string (Value.int .i64)))::xmap ba1vv_1 (a1vv_1m.map (kv Value.string (Value.int .i64)))::xmap ba1vv_2 (a1vv_2m.map (kv Value.string (Value.int .i64)))::xblk ba2 26 ([.slice y10 a2v.Next.length y11,.slice y12 a2v.End.length y13,.slice y14 a2v.Value.length y15,.int .i64 a2v.Start])::fs) w'):=by
  refine calls_abs ?_; intro R hR
  unfold weirlaw14_Net__machine_1.f at hp0
  refine calls_of_runs (fn:=Try.f28) (c:=cd28 []) Try.func28 (by kernel_rfl) (al:=[.string a0,.pointer (some ⟨ba1,0,none⟩),.pointer (some ⟨ba2,0,none⟩)]) rfl (n:=51) rfl ?_
  refine sR 6 [iR p28_0 0 8,.code p28_1] ?_
  refine rL1 33 (.tmp 1) 0 (hS0.blk 0 rfl) ?_
  refine sR 2 [iR p28_0 3 5,.code p28_1] ?_
  refine rL1 41 (.tmp 10) 0 (hS0.blk 1 rfl) ?_
  refine sR 1 [.inRegion (opsOf p28_0) [5,6,7],.code p28_1] ?_
  refine rV (.lookup 41 (.tmp 11) (.tmp 12) false) (.int .i64 ((mget a1vv_0m a0).getD (0 : Int))) (fun o ho _ => x_lookup1 (eK:=Value.string) (eV:=(Value.int .i64)) (dk:=.string) (b:=ba1vv_0) (t:=41) (kt:=9) (et:=3) (m:=a1vv_0m) (kk:=a0) (z:=(0 : Int)) (hS0.at 2 rfl) key_str (by kernel_rfl) (by kernel_rfl) (by kernel_rfl) (by kernel_rfl) (by kernel_rfl) ho) ?_
  refine sR 1 [.inRegion (opsOf p28_0) [7],.code p28_1] ?_
  have hS1:=hS0.pick2
  refine r_mapUpdate (c:=p28_0) (i:=7) (d:=none) (ty:=0) (eK:=Value.string) (eV:=(Value.int .i64)) (dk:=.string) (b:=ba1vv_0) (t:=41) (kt:=9) (et:=3) (x:=(.tmp 11)) (y:=(.tmp 12)) (z:=(.tmp 14)) (m:=a1vv_0m) (kk:=a0) (v:=(IntKind.i64.wrap (((mget a1vv_0m a0).getD (0 : Int)) + 1))) hS1 (by kernel_rfl) (by kernel_rfl) key_str (by kernel_rfl) (by kernel_rfl) (by kernel_rfl) (by kernel_rfl) (by kernel_rfl) ?_
  intro w2 hS3
  refine sR 3 [iR (cd28 [1,1,0]) 0 4,.code (cd28 [1,1,1])] ?_
  refine rLa 26 (.tmp 2) (hS3.blk 5 rfl) ?_
  refine sR 1 [.inRegion (opsOf (cd28 [1,1,0])) [2,3],.code (cd28 [1,1,1])] ?_
  obtain ⟨t4,hr5,hp6⟩:=bind_some' hp0
  refine rC (weirlaw14_Net__number.ok hr5 hS3 y16 y17 y18) ?_
  rintro _ w7 ⟨rfl,hS8⟩
  refine ⟨_,rfl,?_⟩
  refine sR 4 (.code p28_4::td26) ?_
  obtain ⟨v9,hv10,hp11⟩:=bind_some' hp6
  have J15 : ∀ (t12 : Bool) (he17 : t12 = v9) (l16 : List Value) (w13 : World) (hS14 : St w0 Z (xblk ba1 33 ([.pointer (some ⟨ba1v,0,none⟩)])::xblk ba1v 49 ([.map (some ba1vv_0),.map (some ba1vv_1),.map (some ba1vv_2),.bool a1vv_3])::xmap ba1vv_0 ((mput a1vv_0m a0 (IntKind.i64.wrap (((mget a1vv_0m a0).getD (0 : Int)) + 1))).map (kv Value.string (Value.int .i64)))::xmap ba1vv_1 (a1vv_1m.map (kv Value.string (Value.int .i64)))::xmap ba1vv_2 (a1vv_2m.map (kv Value.string (Value.int .i64)))::xblk ba2 26 ([.slice y10 a2v.Next.length y11,.slice y12 a2v.End.length y13,.slice y14 a2v.Value.length y15,.int .i64 a2v.Start])::fs) w13),Runs Try.prog (fx 28) td26 (fill (mk 54 [(1,.pointer (some ⟨ba1,0,none⟩)),(2,.pointer (some ⟨ba2,0,none⟩)),(5,.int .i64 t4),(28,.bool t12)]) l16) w13 R:=by
   intro t12 he17 l16 w13 hS14
   subst he17
   try dsimp only at hp11
   obtain ⟨v18,hv19,hp20⟩:=bind_some' hp11
   have J24 : ∀ (t21 : Bool) (he26 : t21 = v18) (l25 : List Value) (w22 : World) (hS23 : St w0 Z (xblk ba2 26 ([.slice y10 a2v.Next.length y11,.slice y12 a2v.End.length y13,.slice y14 a2v.Value.length y15,.int .i64 a2v.Start])::xblk ba1 33 ([.pointer (some ⟨ba1v,0,none⟩)])::xblk ba1v 49 ([.map (some ba1vv_0),.map (some ba1vv_1),.map (some ba1vv_2),.bool t21])::xmap ba1vv_0 ((mput a1vv_0m a0 (IntKind.i64.wrap (((mget a1vv_0m a0).getD (0 : Int)) + 1))).map (kv Value.string (Value.int .i64)))::xmap ba1vv_1 (a1vv_1m.map (kv Value.string (Value.int .i64)))::xmap ba1vv_2 (a1vv_2m.map (kv Value.string (Value.int .i64)))::fs) w22),Runs Try.prog (fx 28) td25 (fill (mk 54 [(2,.pointer (some ⟨ba2,0,none⟩)),(5,.int .i64 t4)]) l25) w22 R:=by
    intro t21 he26 l25 w22 hS23
    subst he26
    try dsimp only at hp20
    refine sI 5 [.inRegion (opsOf (cd28 [1,1,1,1,0,0])) [],.code (cd28 [1,1,1,1,0,1]),.code (cd28 [1,1,1,1,1])] 33 hp20 (fun hp29 => ?_) fun hp40 => ?_
    ·refine sR 6 [.code (cd28 [1,1,1,1,0,1,0,1]),.code (cd28 [1,1,1,1,1])] ?_
     have hS31:=hS23.nilrow none 88 3
     have hS32:=hS31.pick1
     have hS33:=hS32.pick6
     have hS34:=hS33.pick6
     have hS35:=hS34.pick6
     have hS36:=hS35.pick6
     have hS37:=hS36.pick6
     have hS38:=hS37.pick6
     refine rR (.slice none 0 0) Try.func28 ?_
     cases Option.some.inj hp29
     exact hR _ _ ⟨none,0,rfl,hS38⟩
    refine sR 6 [iR p28_11 1 7,.code p28_12] ?_
    refine rL1 22 (.tmp 34) 0 (hS23.blk 0 rfl) ?_
    refine sR 1 [iR p28_11 3 5,.code p28_12] ?_
    obtain ⟨g41,hp42⟩:=ite_some hp40
    obtain ⟨b43,p44,cs47,hA45,hr48,hl49,hc46⟩:=y16.at_ g41.1 g41.2
    obtain ⟨A50,c51,rfl,hs52⟩:=hr48
    refine r_indexAddr (c:=p28_11) (i:=3) (d:=(some 37)) (ty:=0) (t:=22) (e:=37) (n:=a2v.Next.length) (cp:=y11) (sz:=1) (kk:=.i64) (x:=(.tmp 35)) (y:=(.tmp 36)) (b:=b43) (o':=p44) (j:=t4) (by kernel_rfl) (by kernel_rfl) (slv (by kernel_rfl) hA45) (by kernel_rfl) (by kernel_rfl) (by kernel_rfl) g41.1 g41.2 ?_
    refine rL1 37 (.tmp 37) 0 (hc46.cells hS23) ?_
    refine sR 1 [.inRegion (opsOf p28_11) [6,7],.code p28_12] ?_
    obtain ⟨g54,hp55⟩:=ite_some hp42
    refine r_make (c:=p28_11) (i:=6) (d:=(some 40)) (ty:=40) (enc:=enc_api_Pick) (t:=40) (e:=88) (sz:=3) (bytes:=24) (info:=infoOf Try.prog 88) (x:=(.tmp 39)) (y:=(.tmp 39)) (n:=((gt a2v.Next t4).length : Int)) (kk:=.i64) (kc:=.i64) (z:=.agg (enc_api_Pick (⟨0,0,0⟩ : api_Pick)).toArray) (x0:=(⟨0,0,0⟩ : api_Pick)) hS23 (by kernel_rfl) (by kernel_rfl) (by kernel_rfl) (by kernel_rfl) (by kernel_rfl) (by kernel_rfl) (by kernel_rfl) (by kernel_rfl) (by kernel_rfl) (by kernel_rfl) len_api_Pick (by omega) g54 (by omega) ?_
    intro A56 w57 hS58
    refine rF [none,none,none,none,none,none,none,none,none,none,none,none,none,none,none,none,none,none,none,none,none,none,none,none,none,none,none,none,none,none,none,none,none,none,none,none,none,none,none,none,some (.slice A56 ((gt a2v.Next t4).length : Int).toNat ((gt a2v.Next t4).length : Int).toNat),none,none,none,none,none,none,none,none,none,none,none,none,none] ?_
    refine Runs.refill (m':=[none,none,none,none,none,none,none,none,none,none,none,none,none,none,none,none,none,none,none,none,none,none,none,none,none,none,none,none,none,none,none,none,none,none,none,none,none,none,none,none,some (.slice A56 (List.replicate ((gt a2v.Next t4).length : Int).toNat (⟨0,0,0⟩ : api_Pick)).length (((gt a2v.Next t4).length : Int).toNat)),none,none,none,none,none,none,none,none,none,none,none,none,none]) (by simp only [List.length_replicate]) ?_
    refine sR 9 td30 ?_
    obtain ⟨v60,hv61,hp62⟩:=bind_some' hp55
    have J66 : ∀ (t63 : List api_Pick) (he68 : t63 = v60) (l67 : List Value) (w64 : World) (hS65 : St w0 Z (xrow A56 (((gt a2v.Next t4).length : Int).toNat) 88 3 (t63.flatMap enc_api_Pick)::xblk ba1 33 ([.pointer (some ⟨ba1v,0,none⟩)])::xblk ba1v 49 ([.map (some ba1vv_0),.map (some ba1vv_1),.map (some ba1vv_2),.bool t21])::xmap ba1vv_0 ((mput a1vv_0m a0 (IntKind.i64.wrap (((mget a1vv_0m a0).getD (0 : Int)) + 1))).map (kv Value.string (Value.int .i64)))::xmap ba1vv_1 (a1vv_1m.map (kv Value.string (Value.int .i64)))::xmap ba1vv_2 (a1vv_2m.map (kv Value.string (Value.int .i64)))::xblk ba2 26 ([.slice y10 a2v.Next.length y11,.slice y12 a2v.End.length y13,.slice y14 a2v.Value.length y15,.int .i64 a2v.Start])::fs) w64),Runs Try.prog (fx 28) td27 (fill (mk 54 [(6,.slice A56 t63.length (((gt a2v.Next t4).length : Int).toNat))]) l67) w64 R:=by
     intro t63 he68 l67 w64 hS65
     subst he68
     try dsimp only at hp62
     refine sR 5 [.code (cd28 [1,1,1,1,1,1,1,1])] ?_
     refine rR (.slice A56 t63.length (((gt a2v.Next t4).length : Int).toNat)) Try.func28 ?_
     cases Option.some.inj hp62
     exact hR _ _ ⟨A56,((gt a2v.Next t4).length : Int).toNat,rfl,hS65⟩
    have L80 : ∀ (t70 : Int) (t71 : List api_Pick) (e75 : (List api_Pick)),weirlaw14_Net__machine_1.l0 t4 t70 t71 = some e75 → e75 = v60 → ∀ (l74 : List Value) (w72 : World) (hS73 : St w0 Z (xrow A56 (((gt a2v.Next t4).length : Int).toNat) 88 3 (t71.flatMap enc_api_Pick)::xblk ba1 33 ([.pointer (some ⟨ba1v,0,none⟩)])::xblk ba1v 49 ([.map (some ba1vv_0),.map (some ba1vv_1),.map (some ba1vv_2),.bool t21])::xmap ba1vv_0 ((mput a1vv_0m a0 (IntKind.i64.wrap (((mget a1vv_0m a0).getD (0 : Int)) + 1))).map (kv Value.string (Value.int .i64)))::xmap ba1vv_1 (a1vv_1m.map (kv Value.string (Value.int .i64)))::xmap ba1vv_2 (a1vv_2m.map (kv Value.string (Value.int .i64)))::xblk ba2 26 ([.slice y10 a2v.Next.length y11,.slice y12 a2v.End.length y13,.slice y14 a2v.Value.length y15,.int .i64 a2v.Start])::fs) w72),Runs Try.prog (fx 28) td30 (fill (mk 54 [(5,.int .i64 t4),(6,.slice A56 t71.length (((gt a2v.Next t4).length : Int).toNat)),(7,.int .i64 t70)]) l74) w72 R:=by
     refine weirlaw14_Net__machine_1.l0.partial_correctness t4 (fun t70 t71 e75 => e75 = v60 → ∀ (l74 : List Value) (w72 : World) (hS73 : St w0 Z (xrow A56 (((gt a2v.Next t4).length : Int).toNat) 88 3 (t71.flatMap enc_api_Pick)::xblk ba1 33 ([.pointer (some ⟨ba1v,0,none⟩)])::xblk ba1v 49 ([.map (some ba1vv_0),.map (some ba1vv_1),.map (some ba1vv_2),.bool t21])::xmap ba1vv_0 ((mput a1vv_0m a0 (IntKind.i64.wrap (((mget a1vv_0m a0).getD (0 : Int)) + 1))).map (kv Value.string (Value.int .i64)))::xmap ba1vv_1 (a1vv_1m.map (kv Value.string (Value.int .i64)))::xmap ba1vv_2 (a1vv_2m.map (kv Value.string (Value.int .i64)))::xblk ba2 26 ([.slice y10 a2v.Next.length y11,.slice y12 a2v.End.length y13,.slice y14 a2v.Value.length y15,.int .i64 a2v.Start])::fs) w72),Runs Try.prog (fx 28) td30 (fill (mk 54 [(5,.int .i64 t4),(6,.slice A56 t71.length (((gt a2v.Next t4).length : Int).toNat)),(7,.int .i64 t70)]) l74) w72 R) ?_
     intro rec79 ih78 t70 t71 e75 hb77 he76 l74 w72 hS73
     refine sI 7 (.inRegion (opsOf (cd28 [1,1,1,1,1,1,0,1,0,0,0,0])) []::.code (cd28 [1,1,1,1,1,1,0,1,0,0,0,1])::.code (cd28 [1,1,1,1,1,1,0,1,0,0,1])::td29) 44 hb77 (fun hp83 => ?_) fun hp97 => ?_
     ·refine sR 10 (.inRegion (opsOf p28_19) [4,5,6]::.inBlock 1::.code (cd28 [1,1,1,1,1,1,0,1,0,0,1,1])::td29) ?_
      obtain ⟨t84,hr85,hp86⟩:=bind_some' hp83
      refine rC (weirlaw14_pick.ok hr85 hS73) ?_
      rintro _ w87 ⟨rfl,hS88⟩
      refine ⟨_,rfl,?_⟩
      obtain ⟨g89,hp90⟩:=ite_some hp86
      obtain ⟨b91,p92,hA93,-⟩:=(hS88.row 0 rfl).at_ len_api_Pick (by omega) g89.1 g89.2
      refine r_indexAddr (c:=p28_19) (i:=5) (d:=(some 52)) (ty:=0) (t:=40) (e:=88) (n:=t71.length) (cp:=((gt a2v.Next t4).length : Int).toNat) (sz:=3) (kk:=.i64) (x:=(.tmp 47)) (y:=(.tmp 48)) (b:=b91) (o':=p92) (j:=t70) (by kernel_rfl) (by kernel_rfl) (slv (by kernel_rfl) hA93) (by kernel_rfl) (by kernel_rfl) (by kernel_rfl) g89.1 g89.2 ?_
      refine r_storeEl (c:=p28_19) (i:=6) (d:=none) (ty:=0) (enc:=enc_api_Pick) (e:=88) (t:=88) (sz:=3) (cp:=((gt a2v.Next t4).length : Int).toNat) (A:=A56) (xs:=t71) (x:=(.tmp 52)) (y:=(.tmp 51)) (el:=gt t71 t70) (el':=t84) (j:=t70) (off:=0) (b:=b91) (p:=p92) (v:=.agg (enc_api_Pick t84).toArray) (vs:=enc_api_Pick t84) (ad:=⟨b91,p92 + t70.toNat * 3,none⟩) hS88 (by kernel_rfl) (by kernel_rfl) (by kernel_rfl) (by simp) (by kernel_rfl) hA93 g89 rfl len_api_Pick (by kernel_rfl) (by kernel_rfl) (one_api_Pick _) (by rw [len_api_Pick]; omega) (by rw [len_api_Pick]; omega) (by kernel_rfl) ?_
      intro w95 hS96
      refine rF [none,none,none,none,none,none,some (.slice A56 t71.length (((gt a2v.Next t4).length : Int).toNat)),none,none,none,none,none,none,none,none,none,none,none,none,none,none,none,none,none,none,none,none,none,none,none,none,none,none,none,none,none,none,none,none,none,none,none,some (.slice A56 t71.length (((gt a2v.Next t4).length : Int).toNat)),none,none,none,none,some (.slice A56 t71.length (((gt a2v.Next t4).length : Int).toNat)),none,none,none,none,none,none] ?_
      refine Runs.refill (m':=[none,none,none,none,none,none,some (.slice A56 (setl t71 t70 t84).length (((gt a2v.Next t4).length : Int).toNat)),none,none,none,none,none,none,none,none,none,none,none,none,none,none,none,none,none,none,none,none,none,none,none,none,none,none,none,none,none,none,none,none,none,none,none,some (.slice A56 (setl t71 t70 t84).length (((gt a2v.Next t4).length : Int).toNat)),none,none,none,none,some (.slice A56 (setl t71 t70 t84).length (((gt a2v.Next t4).length : Int).toNat)),none,none,none,none,none,none]) (by simp only [setl_len]) ?_
      refine sR 7 td29 ?_
      refine sR 1 td30 ?_
      exact rF _ (ih78 (IntKind.i64.wrap (t70 + 1)) (setl t71 t70 t84) _ hp90 he76 _ _ hS96)
     refine sR 3 td27 ?_
     exact rF _ (J66 t71 ((Option.some.inj hp97).trans he76) _ _ hS73)
    have hS98:=hS58.pick1
    have hS99:=hS98.pick6
    have hS100:=hS99.pick6
    have hS101:=hS100.pick6
    have hS102:=hS101.pick6
    have hS103:=hS102.pick6
    have hS104:=hS103.pick6
    exact rF _ (L80 0 (List.replicate ((gt a2v.Next t4).length : Int).toNat (⟨0,0,0⟩ : api_Pick)) _ hv61 rfl _ _ hS104)
   cases t12
   ·have hp105:=ite_f hv19 rfl
    refine sR 2 td25 ?_
    have hS106:=hS14.pick4
    have hS107:=hS106.pick4
    have hS108:=hS107.pick4
    have hS109:=hS108.pick4
    have hS110:=hS109.pick4
    have hS111:=hS110.pick5
    exact rF _ (J24 a1vv_3 (Option.some.inj hp105) _ _ hS111)
   have hp112:=ite_t hv19 rfl
   refine sR 2 (iR (cd28 [1,1,1,0,1,0]) 0 4::td25) ?_
   refine rL1 33 (.tmp 1) 0 (hS14.blk 0 rfl) ?_
   refine sR 2 (.inRegion (opsOf (cd28 [1,1,1,0,1,0])) [3]::td25) ?_
   have hS113:=hS14.pick1
   refine rS 4 (.tmp 31) (.const (.bool true)) 3 (.bool true) [.bool true] [.map (some ba1vv_0),.map (some ba1vv_1),.map (some ba1vv_2),.bool true] hS113 ?_
   intro w114 hS115
   refine sR 1 td25 ?_
   have hS116:=hS115.pick4
   have hS117:=hS116.pick4
   have hS118:=hS117.pick4
   have hS119:=hS118.pick3
   have hS120:=hS119.pick4
   have hS121:=hS120.pick5
   exact rF _ (J24 true (Option.some.inj hp112) _ _ hS121)
  refine sR 1 (iR p28_4 0 11::td26) ?_
  refine rL1 33 (.tmp 1) 0 (hS8.blk 1 rfl) ?_
  refine sR 2 (iR p28_4 3 8::td26) ?_
  refine rL1 41 (.tmp 20) 0 (hS8.blk 2 rfl) ?_
  refine sR 1 (iR p28_4 5 6::td26) ?_
  refine rV (.lookup 41 (.tmp 21) (.tmp 22) false) (.int .i64 ((mget (mput a1vv_0m a0 (IntKind.i64.wrap (((mget a1vv_0m a0).getD (0 : Int)) + 1))) a0).getD (0 : Int))) (fun o ho _ => x_lookup1 (eK:=Value.string) (eV:=(Value.int .i64)) (dk:=.string) (b:=ba1vv_0) (t:=41) (kt:=9) (et:=3) (m:=(mput a1vv_0m a0 (IntKind.i64.wrap (((mget a1vv_0m a0).getD (0 : Int)) + 1)))) (kk:=a0) (z:=(0 : Int)) (hS8.at 0 rfl) key_str (by kernel_rfl) (by kernel_rfl) (by kernel_rfl) (by kernel_rfl) (by kernel_rfl) ho) ?_
  refine sI 1 (iR p28_4 7 4::td26) 24 hv10 (fun hp124 => ?_) fun hp131 => ?_
  ·refine sR 5 td26 ?_
   have hS125:=hS8.pick5
   have hS126:=hS125.pick5
   have hS127:=hS126.pick5
   have hS128:=hS127.pick3
   have hS129:=hS128.pick5
   have hS130:=hS129.pick5
   exact rF _ (J15 true (Option.some.inj hp124) _ _ hS130)
  refine sI 3 (.inRegion (opsOf p28_4) [10]::td26) 27 hp131 (fun hp134 => ?_) fun hp141 => ?_
  ·refine sR 2 td26 ?_
   have hS135:=hS8.pick5
   have hS136:=hS135.pick5
   have hS137:=hS136.pick5
   have hS138:=hS137.pick3
   have hS139:=hS138.pick5
   have hS140:=hS139.pick5
   exact rF _ (J15 true (Option.some.inj hp134) _ _ hS140)
  refine sR 2 td26 ?_
  have hS142:=hS8.pick5
  have hS143:=hS142.pick5
  have hS144:=hS143.pick5
  have hS145:=hS144.pick3
  have hS146:=hS145.pick5
  have hS147:=hS146.pick5
  exact rF _ (J15 false (Option.some.inj hp141) _ _ hS147)

noncomputable def cd31 (p : List Nat) : Code := sub (bodyOf Try.f31) p
abbrev p31_4:=cd31 [1,1,0,0]
abbrev p31_6:=cd31 [1,1,1]
abbrev p31_9:=cd31 [1,1,1,1,0]
abbrev p31_10:=cd31 [1,1,1,1,1]
abbrev p31_11:=cd31 [1,1,1,1,1,0,0]
abbrev p31_14:=cd31 [1,1,1,1,1,1,0]
abbrev p31_16:=cd31 [1,1,1,1,1,1,1,0,0]
abbrev p31_18:=cd31 [1,1,1,1,1,1,1,1]
abbrev p31_19:=cd31 [1,1,1,1,1,1,1,0,1,0,1]
abbrev p31_21:=cd31 [1,1,1,1,1,1,1,1,1]
abbrev td31:List Item:=[.code (cd31 [1,1,1,1,1,1])]
abbrev td32:List Item:=.code (cd31 [1,1,1,1,1,0,1])::td31
abbrev td33:List Item:=[.code (cd31 [1,1,1,1,1,1,1,0,1]),.code p31_18]
def weirlaw14_Net__machine_2.f (a0 : ByteArray) (a1 : api_Pick) (a2v : weirlaw14_Net) (a3vv_0m a3vv_1m a3vv_2m : List (ByteArray × Int)) (a3vv_3 : Bool) : Option (ByteArray × Bool × Bool × (List (ByteArray × Int))) :=
  (weirlaw14_Net__number.f a2v a0 >>= (fun t5 => (((if (decide (t5 < 0)) = true then some (true) else (if (decide (a1.Loc < 0)) = true then some (true) else (if 0 ≤ t5 ∧ t5 < (a2v.Next.length : Int) then (if (decide (a1.Loc ≥ ((gt a2v.Next t5).length : Int))) = true then some (true) else (weirlaw14_pick.f t5 a1.Loc >>= (fun t164 => (if (!(decide (a1 = t164))) = true then some (true) else some (false))))) else none))) : Option Bool) >>= (fun t13 => (if t13 = true then some (((⟨#[]⟩ : ByteArray),false,true,a3vv_2m)) else (weirlaw14_name.f a1.Loc >>= (fun t20 => (if a0.size + t20.size ≤ 9223372036854775807 then (((if (decide (((mget (mput a3vv_2m (a0 ++ t20) (IntKind.i64.wrap (((mget a3vv_2m (a0 ++ t20)).getD (0 : Int)) + 1))) (a0 ++ t20)).getD (0 : Int)) > 1)) = true then some (true) else some (a3vv_3)) : Option Bool) >>= (fun t33 => (if 0 ≤ t5 ∧ t5 < (a2v.Next.length : Int) then (if 0 ≤ a1.Loc ∧ a1.Loc < ((gt a2v.Next t5).length : Int) then (if (decide ((gt (gt a2v.Next t5) a1.Loc) < 0)) = true then some (((⟨#[]⟩ : ByteArray),false,t33,(mput a3vv_2m (a0 ++ t20) (IntKind.i64.wrap (((mget a3vv_2m (a0 ++ t20)).getD (0 : Int)) + 1))))) else (if (decide ((gt (gt a2v.Next t5) a1.Loc) ≥ (a2v.Next.length : Int))) = true then some (((⟨#[]⟩ : ByteArray),false,t33,(mput a3vv_2m (a0 ++ t20) (IntKind.i64.wrap (((mget a3vv_2m (a0 ++ t20)).getD (0 : Int)) + 1))))) else (weirlaw14_name.f (gt (gt a2v.Next t5) a1.Loc) >>= (fun t74 => some ((t74,true,t33,(mput a3vv_2m (a0 ++ t20) (IntKind.i64.wrap (((mget a3vv_2m (a0 ++ t20)).getD (0 : Int)) + 1))))))))) else none) else none))) else none))))))))
theorem weirlaw14_Net__machine_2.ok {a0 : ByteArray} {a1 : api_Pick} {a2v : weirlaw14_Net} {a3vv_0m a3vv_1m a3vv_2m : List (ByteArray × Int)} {a3vv_3 : Bool} {ba2 : Nat} {y10 : Option Addr} {y11 : Nat} {y12 : Option Addr} {y13 : Nat} {y14 : Option Addr} {y15 ba3 : Nat} {ba3v ba3vv_0 : Nat} {ba3vv_1 ba3vv_2 : Nat} {q0 : ByteArray} {q1 q2 : Bool} {q3 : List (ByteArray × Int)} (hp0 : weirlaw14_Net__machine_2.f a0 a1 a2v a3vv_0m a3vv_1m a3vv_2m a3vv_3 = some (q0,q1,q2,q3)) (hS0 : St w0 Z (xblk ba2 26 ([.slice y10 a2v.Next.length y11,.slice y12 a2v.End.length y13,.slice y14 a2v.Value.length y15,.int .i64 a2v.Start])::xblk ba3 33 ([.pointer (some ⟨ba3v,0,none⟩)])::xblk ba3v 49 ([.map (some ba3vv_0),.map (some ba3vv_1),.map (some ba3vv_2),.bool a3vv_3])::xmap ba3vv_0 (a3vv_0m.map (kv Value.string (Value.int .i64)))::xmap ba3vv_1 (a3vv_1m.map (kv Value.string (Value.int .i64)))::xmap ba3vv_2 (a3vv_2m.map (kv Value.string (Value.int .i64)))::fs) w) (y16 : SlZ (repL (flat (encI .i64)) 1) 1 Z y10 y11 a2v.Next) (y17 : SlZ (flat encB) 1 Z y12 y13 a2v.End) (y18 : SlZ (flat (encI .i64)) 1 Z y14 y15 a2v.Value) :
    Calls Try.prog 31 #[.string a0,.agg (enc_api_Pick a1).toArray,.pointer (some ⟨ba2,0,none⟩),.pointer (some ⟨ba3,0,none⟩)] w (fun e w' => e = .returned (.tuple #[.string q0,.bool q1]) ∧ St w0 Z (xblk ba2 26 ([.slice y10 a2v.Next.length y11,.slice y12 a2v.End.length y13,.slice y14 a2v.Value.length y15,.int .i64 a2v.Start])::xblk ba3 33 ([.pointer (some ⟨ba3v,0,none⟩)])::xblk ba3v 49 ([.map (some ba3vv_0),.map (some ba3vv_1),.map (some ba3vv_2),.bool q2])::xmap ba3vv_0 (a3vv_0m.map (kv Value.string (Value.int .i64)))::xmap ba3vv_1 (a3vv_1m.map (kv Value.string (Value.int .i64)))::xmap ba3vv_2 (q3.map (kv Value.string (Value.int .i64)))::fs) w'):=by
  refine calls_abs ?_; intro R hR
  unfold weirlaw14_Net__machine_2.f at hp0
  refine calls_of_runs (fn:=Try.f31) (c:=cd31 []) Try.func31 (by kernel_rfl) (al:=[.string a0,.agg (enc_api_Pick a1).toArray,.pointer (some ⟨ba2,0,none⟩),.pointer (some ⟨ba3,0,none⟩)]) rfl (n:=81) rfl ?_
  refine sR 2 [.inRegion (opsOf (cd31 [0])) [0,1,2],.code (cd31 [1])] ?_
  refine r_box (c:=(cd31 [0])) (i:=0) (d:=(some 5)) (ty:=0) (x:=(.tmp 1)) (v:=.agg (enc_api_Pick a1).toArray) (t:=88) (cs:=enc_api_Pick a1) hS0 (by kernel_rfl) (by kernel_rfl) (by kernel_rfl) (by kernel_rfl) ?_
  intro b1 w2 hS3
  refine sR 5 [iR (cd31 [1,0]) 0 4,.code (cd31 [1,1])] ?_
  refine rLa 26 (.tmp 2) (hS3.blk 1 rfl) ?_
  refine sR 1 [.inRegion (opsOf (cd31 [1,0])) [2,3],.code (cd31 [1,1])] ?_
  obtain ⟨t5,hr6,hp7⟩:=bind_some' hp0
  refine rC (weirlaw14_Net__number.ok hr6 hS3 y16 y17 y18) ?_
  rintro _ w8 ⟨rfl,hS9⟩
  refine ⟨_,rfl,?_⟩
  refine sR 4 [.code p31_4,.code (cd31 [1,1,0,1]),.code p31_6] ?_
  obtain ⟨v10,hv11,hp12⟩:=bind_some' hp7
  have J16 : ∀ (t13 : Bool) (he18 : t13 = v10) (l17 : List Value) (w14 : World) (hS15 : St w0 Z (xblk ba2 26 ([.slice y10 a2v.Next.length y11,.slice y12 a2v.End.length y13,.slice y14 a2v.Value.length y15,.int .i64 a2v.Start])::xblk ba3 33 ([.pointer (some ⟨ba3v,0,none⟩)])::xblk ba3v 49 ([.map (some ba3vv_0),.map (some ba3vv_1),.map (some ba3vv_2),.bool a3vv_3])::xmap ba3vv_0 (a3vv_0m.map (kv Value.string (Value.int .i64)))::xmap ba3vv_1 (a3vv_1m.map (kv Value.string (Value.int .i64)))::xmap ba3vv_2 (a3vv_2m.map (kv Value.string (Value.int .i64)))::xblk b1 88 (enc_api_Pick a1)::fs) w14),Runs Try.prog (fx 31) [.code (cd31 [1,1,0,1]),.code p31_6] (fill (mk 85 [(0,.string a0),(2,.pointer (some ⟨ba2,0,none⟩)),(3,.pointer (some ⟨ba3,0,none⟩)),(5,.pointer (some ⟨b1,0,none⟩)),(8,.int .i64 t5),(39,.bool t13)]) l17) w14 R:=by
   intro t13 he18 l17 w14 hS15
   subst he18
   try dsimp only at hp12
   cases t13
   ·have hp19:=ite_f hp12 rfl
    refine sR 6 [iR (cd31 [1,1,1,0]) 2 4,.code (cd31 [1,1,1,1])] ?_
    refine rL1 3 (.tmp 44) 2 (hS15.blk 6 rfl) ?_
    obtain ⟨t20,hr21,hp22⟩:=bind_some' hp19
    refine rC (weirlaw14_name.ok hr21 hS15) ?_
    rintro _ w23 ⟨rfl,hS24⟩
    refine ⟨_,rfl,?_⟩
    obtain ⟨g25,hp26⟩:=ite_some hp22
    refine rV (.binOp .add 9 (.tmp 43) (.tmp 46) 9) (.string (a0 ++ t20)) (fun o ho _ => x_concat (by kernel_rfl) (by kernel_rfl) g25 ho) ?_
    refine sR 4 [iR p31_9 0 8,.code p31_10] ?_
    refine rL1 33 (.tmp 3) 0 (hS24.blk 1 rfl) ?_
    refine sR 2 [iR p31_9 3 5,.code p31_10] ?_
    refine rL1 41 (.tmp 50) 2 (hS24.blk 2 rfl) ?_
    refine sR 1 [.inRegion (opsOf p31_9) [5,6,7],.code p31_10] ?_
    refine rV (.lookup 41 (.tmp 51) (.tmp 52) false) (.int .i64 ((mget a3vv_2m (a0 ++ t20)).getD (0 : Int))) (fun o ho _ => x_lookup1 (eK:=Value.string) (eV:=(Value.int .i64)) (dk:=.string) (b:=ba3vv_2) (t:=41) (kt:=9) (et:=3) (m:=a3vv_2m) (kk:=(a0 ++ t20)) (z:=(0 : Int)) (hS24.at 5 rfl) key_str (by kernel_rfl) (by kernel_rfl) (by kernel_rfl) (by kernel_rfl) (by kernel_rfl) ho) ?_
    refine sR 1 [.inRegion (opsOf p31_9) [7],.code p31_10] ?_
    have hS27:=hS24.pick5
    refine r_mapUpdate (c:=p31_9) (i:=7) (d:=none) (ty:=0) (eK:=Value.string) (eV:=(Value.int .i64)) (dk:=.string) (b:=ba3vv_2) (t:=41) (kt:=9) (et:=3) (x:=(.tmp 51)) (y:=(.tmp 52)) (z:=(.tmp 54)) (m:=a3vv_2m) (kk:=(a0 ++ t20)) (v:=(IntKind.i64.wrap (((mget a3vv_2m (a0 ++ t20)).getD (0 : Int)) + 1))) hS27 (by kernel_rfl) (by kernel_rfl) key_str (by kernel_rfl) (by kernel_rfl) (by kernel_rfl) (by kernel_rfl) (by kernel_rfl) ?_
    intro w28 hS29
    refine sR 4 (iR p31_11 0 7::td32) ?_
    refine rL1 33 (.tmp 3) 0 (hS29.blk 2 rfl) ?_
    refine sR 2 (iR p31_11 3 4::td32) ?_
    refine rL1 41 (.tmp 57) 2 (hS29.blk 3 rfl) ?_
    refine sR 1 (.inRegion (opsOf p31_11) [5,6]::td32) ?_
    refine rV (.lookup 41 (.tmp 58) (.tmp 59) false) (.int .i64 ((mget (mput a3vv_2m (a0 ++ t20) (IntKind.i64.wrap (((mget a3vv_2m (a0 ++ t20)).getD (0 : Int)) + 1))) (a0 ++ t20)).getD (0 : Int))) (fun o ho _ => x_lookup1 (eK:=Value.string) (eV:=(Value.int .i64)) (dk:=.string) (b:=ba3vv_2) (t:=41) (kt:=9) (et:=3) (m:=(mput a3vv_2m (a0 ++ t20) (IntKind.i64.wrap (((mget a3vv_2m (a0 ++ t20)).getD (0 : Int)) + 1)))) (kk:=(a0 ++ t20)) (z:=(0 : Int)) (hS29.at 0 rfl) key_str (by kernel_rfl) (by kernel_rfl) (by kernel_rfl) (by kernel_rfl) (by kernel_rfl) ho) ?_
    obtain ⟨v30,hv31,hp32⟩:=bind_some' hp26
    have J36 : ∀ (t33 : Bool) (he38 : t33 = v30) (l37 : List Value) (w34 : World) (hS35 : St w0 Z (xblk ba2 26 ([.slice y10 a2v.Next.length y11,.slice y12 a2v.End.length y13,.slice y14 a2v.Value.length y15,.int .i64 a2v.Start])::xblk b1 88 (enc_api_Pick a1)::xblk ba3 33 ([.pointer (some ⟨ba3v,0,none⟩)])::xblk ba3v 49 ([.map (some ba3vv_0),.map (some ba3vv_1),.map (some ba3vv_2),.bool t33])::xmap ba3vv_0 (a3vv_0m.map (kv Value.string (Value.int .i64)))::xmap ba3vv_1 (a3vv_1m.map (kv Value.string (Value.int .i64)))::xmap ba3vv_2 ((mput a3vv_2m (a0 ++ t20) (IntKind.i64.wrap (((mget a3vv_2m (a0 ++ t20)).getD (0 : Int)) + 1))).map (kv Value.string (Value.int .i64)))::fs) w34),Runs Try.prog (fx 31) td31 (fill (mk 85 [(2,.pointer (some ⟨ba2,0,none⟩)),(5,.pointer (some ⟨b1,0,none⟩)),(8,.int .i64 t5)]) l37) w34 R:=by
     intro t33 he38 l37 w34 hS35
     subst he38
     try dsimp only at hp32
     refine sR 1 [.code p31_14,.code (cd31 [1,1,1,1,1,1,1])] ?_
     refine r_quiet hS35 (c:=p31_14) (id:=9) (by kernel_rfl) (by kernel_rfl) (by kernel_rfl) (is:=[0,1,2,3,4,5,6,7,8,9]) (by kernel_rfl) ?_
     refine qR 1 (rg 1 9) ?_
     refine qL1 22 (.tmp 65) 0 (fun w hC => (hC.blk 0 rfl)) ?_
     refine qR 1 (rg 3 7) ?_
     obtain ⟨g39,hp40⟩:=ite_some hp32
     obtain ⟨b41,p42,cs45,hA43,hr46,hl47,hc44⟩:=y16.at_ g39.1 g39.2
     obtain ⟨A48,c49,rfl,hs50⟩:=hr46
     refine q_indexAddr (c:=p31_14) (i:=3) (d:=(some 68)) (ty:=0) (t:=22) (e:=37) (n:=a2v.Next.length) (cp:=y11) (sz:=1) (kk:=.i64) (x:=(.tmp 66)) (y:=(.tmp 67)) (b:=b41) (o':=p42) (j:=t5) (by kernel_rfl) (by kernel_rfl) (slv (by kernel_rfl) hA43) (by kernel_rfl) (by kernel_rfl) (by kernel_rfl) g39.1 g39.2 ?_
     refine qL1 37 (.tmp 68) 0 (fun w hC => (hc44.cells hC)) ?_
     refine qR 1 (rg 6 4) ?_
     refine qL1 3 (.tmp 70) 2 (fun w hC => (hC.blk 1 rfl)) ?_
     obtain ⟨g52,hp53⟩:=ite_some hp40
     obtain ⟨b54,p55,hA56,hc57⟩:=hs50.atF g52.1 g52.2
     refine q_indexAddr (c:=p31_14) (i:=7) (d:=(some 72)) (ty:=0) (t:=37) (e:=3) (n:=(gt a2v.Next t5).length) (cp:=c49) (sz:=1) (kk:=.i64) (x:=(.tmp 69)) (y:=(.tmp 71)) (b:=b54) (o':=p55) (j:=a1.Loc) (by kernel_rfl) (by kernel_rfl) (slv (by kernel_rfl) hA56) (by kernel_rfl) (by kernel_rfl) (by kernel_rfl) g52.1 g52.2 ?_
     refine qL1 3 (.tmp 72) 0 (fun w hC => (hc57.cells hC)) ?_
     refine qR 1 [] ?_
     refine Qs.nil ?_
     intro w58 hS59
     refine sI 5 (iR p31_16 2 7::td33) 75 hp53 (fun hp62 => ?_) fun hp66 => ?_
     ·refine sR 14 [.code p31_19,.code p31_18] ?_
      have hS63:=hS59.pick1
      have hS64:=hS63.drop
      refine rR (.tuple #[.string (⟨#[]⟩ : ByteArray),.bool false]) Try.func31 ?_
      cases Option.some.inj hp62
      exact hR _ _ ⟨rfl,hS64⟩
     refine sR 3 (iR p31_16 5 4::td33) ?_
     refine rL1 22 (.tmp 78) 0 (hS59.blk 0 rfl) ?_
     refine sI 2 (.inRegion (opsOf p31_16) [8]::td33) 81 hp66 (fun hp69 => ?_) fun hp73 => ?_
     ·refine sR 8 [.code p31_19,.code p31_18] ?_
      have hS70:=hS59.pick1
      have hS71:=hS70.drop
      refine rR (.tuple #[.string (⟨#[]⟩ : ByteArray),.bool false]) Try.func31 ?_
      cases Option.some.inj hp69
      exact hR _ _ ⟨rfl,hS71⟩
     refine sR 7 [.inRegion (opsOf (cd31 [1,1,1,1,1,1,1,1,0])) [1,2,3],.code p31_21] ?_
     obtain ⟨t74,hr75,hp76⟩:=bind_some' hp73
     refine rC (weirlaw14_name.ok hr75 hS59) ?_
     rintro _ w77 ⟨rfl,hS78⟩
     refine ⟨_,rfl,?_⟩
     refine sR 3 [.code p31_21] ?_
     have hS79:=hS78.pick1
     have hS80:=hS79.drop
     refine rR (.tuple #[.string t74,.bool true]) Try.func31 ?_
     cases Option.some.inj hp76
     exact hR _ _ ⟨rfl,hS80⟩
    refine sI 1 (.inRegion (opsOf p31_11) []::td32) 61 hv31 (fun hp84 => ?_) fun hp95 => ?_
    ·refine sR 3 (iR (cd31 [1,1,1,1,1,0,1,0]) 0 4::td31) ?_
     refine rL1 33 (.tmp 3) 0 (hS29.blk 2 rfl) ?_
     refine sR 2 (.inRegion (opsOf (cd31 [1,1,1,1,1,0,1,0])) [3]::td31) ?_
     have hS85:=hS29.pick3
     refine rS 4 (.tmp 64) (.const (.bool true)) 3 (.bool true) [.bool true] [.map (some ba3vv_0),.map (some ba3vv_1),.map (some ba3vv_2),.bool true] hS85 ?_
     intro w86 hS87
     refine sR 1 td31 ?_
     have hS88:=hS87.pick1
     have hS89:=hS88.pick5
     have hS90:=hS89.pick5
     have hS91:=hS90.pick3
     have hS92:=hS91.pick5
     have hS93:=hS92.pick6
     have hS94:=hS93.pick6
     exact rF _ (J36 true (Option.some.inj hp84) _ _ hS94)
    refine sR 3 td31 ?_
    have hS96:=hS29.pick5
    have hS97:=hS96.pick5
    have hS98:=hS97.pick5
    have hS99:=hS98.pick5
    have hS100:=hS99.pick6
    have hS101:=hS100.pick6
    exact rF _ (J36 a3vv_3 (Option.some.inj hp95) _ _ hS101)
   have hp102:=ite_t hp12 rfl
   refine sR 3 [iR (cd31 [1,1,0,1,0,0]) 0 4,.code (cd31 [1,1,0,1,0,1]),.code p31_6] ?_
   refine rL1 33 (.tmp 3) 0 (hS15.blk 1 rfl) ?_
   refine sR 2 [.inRegion (opsOf (cd31 [1,1,0,1,0,0])) [3],.code (cd31 [1,1,0,1,0,1]),.code p31_6] ?_
   have hS103:=hS15.pick2
   refine rS 4 (.tmp 42) (.const (.bool true)) 3 (.bool true) [.bool true] [.map (some ba3vv_0),.map (some ba3vv_1),.map (some ba3vv_2),.bool true] hS103 ?_
   intro w104 hS105
   refine sR 6 [.code (cd31 [1,1,0,1,0,1,1]),.code p31_6] ?_
   have hS106:=hS105.pick6
   have hS107:=hS106.drop
   have hS108:=hS107.pick5
   have hS109:=hS108.pick5
   have hS110:=hS109.pick5
   have hS111:=hS110.pick3
   have hS112:=hS111.pick5
   have hS113:=hS112.pick5
   refine rR (.tuple #[.string (⟨#[]⟩ : ByteArray),.bool false]) Try.func31 ?_
   cases Option.some.inj hp102
   exact hR _ _ ⟨rfl,hS113⟩
  refine r_quiet hS9 (c:=p31_4) (id:=2) (by kernel_rfl) (by kernel_rfl) (by kernel_rfl) (is:=[0,1,2,3,4,5,6,7,8,9,10,11,12,13,14,15,16,17,18,19,20,21,22,23,24,25]) (by kernel_rfl) ?_
  refine qI 2 (rg 2 24) 15 hv11 (fun hp117 => ?_) fun hp126 => ?_
  ·refine qR 24 [] ?_
   refine Qs.nil ?_
   intro w118 hS119
   have hS120:=hS119.pick6
   have hS121:=hS120.pick6
   have hS122:=hS121.pick6
   have hS123:=hS122.pick6
   have hS124:=hS123.pick6
   have hS125:=hS124.pick6
   exact rF _ (J16 true (Option.some.inj hp117) _ _ hS125)
  refine qR 2 (rg 4 22) ?_
  refine qL1 3 (.tmp 17) 2 (fun w hC => (hC.blk 0 rfl)) ?_
  refine qI 1 (rg 6 20) 19 hp126 (fun hp129 => ?_) fun hp138 => ?_
  ·refine qR 20 [] ?_
   refine Qs.nil ?_
   intro w130 hS131
   have hS132:=hS131.pick6
   have hS133:=hS132.pick6
   have hS134:=hS133.pick6
   have hS135:=hS134.pick6
   have hS136:=hS135.pick6
   have hS137:=hS136.pick6
   exact rF _ (J16 true (Option.some.inj hp129) _ _ hS137)
  refine qR 3 (rg 9 17) ?_
  refine qL1 3 (.tmp 22) 2 (fun w hC => (hC.blk 0 rfl)) ?_
  refine qR 1 (rg 11 15) ?_
  refine qL1 22 (.tmp 24) 0 (fun w hC => (hC.blk 1 rfl)) ?_
  refine qR 1 (rg 13 13) ?_
  obtain ⟨g139,hp140⟩:=ite_some hp138
  obtain ⟨b141,p142,cs145,hA143,hr146,hl147,hc144⟩:=y16.at_ g139.1 g139.2
  obtain ⟨A148,c149,rfl,hs150⟩:=hr146
  refine q_indexAddr (c:=p31_4) (i:=13) (d:=(some 27)) (ty:=0) (t:=22) (e:=37) (n:=a2v.Next.length) (cp:=y11) (sz:=1) (kk:=.i64) (x:=(.tmp 25)) (y:=(.tmp 26)) (b:=b141) (o':=p142) (j:=t5) (by kernel_rfl) (by kernel_rfl) (slv (by kernel_rfl) hA143) (by kernel_rfl) (by kernel_rfl) (by kernel_rfl) g139.1 g139.2 ?_
  refine qL1 37 (.tmp 27) 0 (fun w hC => (hc144.cells hC)) ?_
  refine qI 2 (rg 17 9) 30 hp140 (fun hp154 => ?_) fun hp163 => ?_
  ·refine qR 9 [] ?_
   refine Qs.nil ?_
   intro w155 hS156
   have hS157:=hS156.pick6
   have hS158:=hS157.pick6
   have hS159:=hS158.pick6
   have hS160:=hS159.pick6
   have hS161:=hS160.pick6
   have hS162:=hS161.pick6
   exact rF _ (J16 true (Option.some.inj hp154) _ _ hS162)
  refine qR 2 (rg 19 7) ?_
  refine qLa 88 (.tmp 5) (fun w hC => (hC.blk 0 rfl)) ?_
  refine qR 2 (rg 22 4) ?_
  refine qL1 3 (.tmp 35) 2 (fun w hC => (hC.blk 0 rfl)) ?_
  obtain ⟨t164,hr165,hp166⟩:=bind_some' hp163
  refine q_call1 (c:=p31_4) (i:=23) (d:=(some 37)) (v:=.agg (enc_api_Pick t164).toArray) (g:=30) (args:=#[.int .i64 t5,.int .i64 a1.Loc]) (by kernel_rfl) (by kernel_rfl) (by kernel_rfl) (by kernel_rfl) (fun w hC => by
   refine (weirlaw14_pick.ok hr165 hC).mono ?_
   rintro e w2 ⟨rfl,h2⟩
   have hS167:=h2.pick6
   have hS168:=hS167.pick6
   have hS169:=hS168.pick6
   have hS170:=hS169.pick6
   have hS171:=hS170.pick6
   have hS172:=hS171.pick6
   have hS173:=hS172.pick6
   exact ⟨rfl,hS173⟩) ?_
  refine qV (.binOp .neq 88 (.tmp 33) (.tmp 37) 88) (.bool (!(decide (a1 = t164)))) (fun w hC o ho _ => x_neq_api_Pick (by kernel_rfl) (by kernel_rfl) ho) ?_
  refine q_split (!(decide (a1 = t164))) (fun h174 => ?_) (fun h175 => ?_)
  ·have hp176:=ite_t hp166 h174
   refine qR 1 [] ?_
   refine Qs.nil ?_
   intro w177 hS178
   have hS179:=hS178.pick6
   have hS180:=hS179.pick6
   have hS181:=hS180.pick6
   have hS182:=hS181.pick6
   have hS183:=hS182.pick6
   have hS184:=hS183.pick6
   exact rF _ (J16 true (Option.some.inj hp176) _ _ hS184)
  have hp185:=ite_f hp166 h175
  refine qR 1 [] ?_
  refine Qs.nil ?_
  intro w186 hS187
  have hS188:=hS187.pick6
  have hS189:=hS188.pick6
  have hS190:=hS189.pick6
  have hS191:=hS190.pick6
  have hS192:=hS191.pick6
  have hS193:=hS192.pick6
  exact rF _ (J16 false (Option.some.inj hp185) _ _ hS193)

noncomputable def cd45 (p : List Nat) : Code := sub (bodyOf Try.f45) p
abbrev p45_9:=cd45 [1,1,0,1,0,0,1,1,0,0,0]
abbrev p45_12:=cd45 [1,1,0,1,0,0,1,1,0,0,1,0]
abbrev p45_13:=cd45 [1,1,0,1,0,0,1,1,0,0,1,1]
abbrev p45_15:=cd45 [1,1,0,1,0,0,1,1,0,0,1,1,1,0]
abbrev td34:List Item:=[.code (cd45 [1,1,1])]
abbrev td35:List Item:=.inBlock 0::td34
abbrev td36:List Item:=.inLoop (cd45 [1,1,0,1,0,0])::td35
abbrev td37:List Item:=.code (cd45 [1,1,0,1,0,0])::td36
abbrev td38:List Item:=.code (cd45 [1,1,0,1,0,0,1,1,1])::td36
abbrev td39:List Item:=.inBlock 1::td38
def explore_moves.l0 (a0_1c0vv_1m : List (ByteArray × Int)) (a0_1c1v : weirlaw14_Net) (a1 : ByteArray) (t5 : List api_Pick) (t7 : List (ByteArray × Int)) (t39 : List explore_edge) (t43 : Int) (t44 : Bool) (t45 : List (ByteArray × Int)) : Option ((List explore_edge) × Bool × (List (ByteArray × Int))) :=
  (if (decide (t43 < (t5.length : Int))) = true then (if 0 ≤ t43 ∧ t43 < (t5.length : Int) then (weirlaw14_Net__machine_2.f a1 (gt t5 t43) a0_1c1v t7 a0_1c0vv_1m t45 t44 >>= (fun (t70,t71,t72,t73) => (if t71 = true then (if (t39.length + ([(⟨(gt t5 t43),t70⟩ : explore_edge)] : List explore_edge).length) * 40 ≤ 140737488355328 then (explore_moves.l0 a0_1c0vv_1m a0_1c1v a1 t5 t7 (t39 ++ ([(⟨(gt t5 t43),t70⟩ : explore_edge)] : List explore_edge)) (IntKind.i64.wrap (t43 + 1)) t72 t73) else none) else (explore_moves.l0 a0_1c0vv_1m a0_1c1v a1 t5 t7 (id t39) (IntKind.i64.wrap (t43 + 1)) t72 t73)))) else none) else some ((t39,t44,t45)))
 partial_fixpoint
def explore_moves.f (y9 : ByteArray) (a0_1c0vv_0m a0_1c0vv_1m a0_1c0vv_2m : List (ByteArray × Int)) (a0_1c0vv_3 : Bool) (a0_1c1v : weirlaw14_Net) (a1 : ByteArray) : Option ((List explore_edge) × Bool × (List (ByteArray × Int)) × (List (ByteArray × Int))) :=
  (weirlaw14_Net__machine_1.f a1 a0_1c0vv_0m a0_1c0vv_1m a0_1c0vv_2m a0_1c0vv_3 a0_1c1v >>= (fun (t5,t6,t7) => (explore_moves.l0 a0_1c0vv_1m a0_1c1v a1 t5 t7 [] 0 t6 a0_1c0vv_2m >>= (fun (t27,t31,t32) => some ((t27,t31,t7,t32))))))
theorem explore_moves.ok {y9 : ByteArray} {a0_1c0vv_0m a0_1c0vv_1m a0_1c0vv_2m : List (ByteArray × Int)} {a0_1c0vv_3 : Bool} {a0_1c1v : weirlaw14_Net} {a1 : ByteArray} {ba0_1c0 ba0_1c0v : Nat} {ba0_1c0vv_0 ba0_1c0vv_1 : Nat} {ba0_1c0vv_2 ba0_1c1 : Nat} {Aa0_1c1v_0 : Option Addr} {ca0_1c1v_0 : Nat} {Aa0_1c1v_1 : Option Addr} {ca0_1c1v_1 : Nat} {Aa0_1c1v_2 : Option Addr} {ca0_1c1v_2 : Nat} {q0 : List explore_edge} {q1 : Bool} {q2 q3 : List (ByteArray × Int)} (hp0 : explore_moves.f y9 a0_1c0vv_0m a0_1c0vv_1m a0_1c0vv_2m a0_1c0vv_3 a0_1c1v a1 = some (q0,q1,q2,q3)) (hS0 : St w0 Z (xblk ba0_1c0 33 ([.pointer (some ⟨ba0_1c0v,0,none⟩)])::xblk ba0_1c0v 49 ([.map (some ba0_1c0vv_0),.map (some ba0_1c0vv_1),.map (some ba0_1c0vv_2),.bool a0_1c0vv_3])::xmap ba0_1c0vv_0 (a0_1c0vv_0m.map (kv Value.string (Value.int .i64)))::xmap ba0_1c0vv_1 (a0_1c0vv_1m.map (kv Value.string (Value.int .i64)))::xmap ba0_1c0vv_2 (a0_1c0vv_2m.map (kv Value.string (Value.int .i64)))::xblk ba0_1c1 26 ([.slice Aa0_1c1v_0 a0_1c1v.Next.length ca0_1c1v_0,.slice Aa0_1c1v_1 a0_1c1v.End.length ca0_1c1v_1,.slice Aa0_1c1v_2 a0_1c1v.Value.length ca0_1c1v_2,.int .i64 a0_1c1v.Start])::fs) w) (ha0_1c1v_0 : SlZ (repL (flat (encI .i64)) 1) 1 Z Aa0_1c1v_0 ca0_1c1v_0 a0_1c1v.Next) (ha0_1c1v_1 : SlZ (flat encB) 1 Z Aa0_1c1v_1 ca0_1c1v_1 a0_1c1v.End) (ha0_1c1v_2 : SlZ (flat (encI .i64)) 1 Z Aa0_1c1v_2 ca0_1c1v_2 a0_1c1v.Value) :
    Calls Try.prog 45 #[.agg #[.string y9,.func (.func 28) #[] #[.pointer (some ⟨ba0_1c0,0,none⟩),.pointer (some ⟨ba0_1c1,0,none⟩)],.func (.func 31) #[] #[.pointer (some ⟨ba0_1c1,0,none⟩),.pointer (some ⟨ba0_1c0,0,none⟩)],.func (.func 32) #[] #[.pointer (some ⟨ba0_1c0,0,none⟩),.pointer (some ⟨ba0_1c1,0,none⟩)]],.string a1] w (fun e w' => ∃ (QA0 : Option Addr) (Qc0 : Nat),e = .returned (.slice QA0 q0.length Qc0) ∧ St w0 Z (xrow QA0 Qc0 122 4 (q0.flatMap enc_explore_edge)::xblk ba0_1c0 33 ([.pointer (some ⟨ba0_1c0v,0,none⟩)])::xblk ba0_1c0v 49 ([.map (some ba0_1c0vv_0),.map (some ba0_1c0vv_1),.map (some ba0_1c0vv_2),.bool q1])::xmap ba0_1c0vv_0 (q2.map (kv Value.string (Value.int .i64)))::xmap ba0_1c0vv_1 (a0_1c0vv_1m.map (kv Value.string (Value.int .i64)))::xmap ba0_1c0vv_2 (q3.map (kv Value.string (Value.int .i64)))::xblk ba0_1c1 26 ([.slice Aa0_1c1v_0 a0_1c1v.Next.length ca0_1c1v_0,.slice Aa0_1c1v_1 a0_1c1v.End.length ca0_1c1v_1,.slice Aa0_1c1v_2 a0_1c1v.Value.length ca0_1c1v_2,.int .i64 a0_1c1v.Start])::fs) w'):=by
  refine calls_abs ?_; intro R hR
  unfold explore_moves.f at hp0
  refine calls_of_runs (fn:=Try.f45) (c:=cd45 []) Try.func45 (by kernel_rfl) (al:=[.agg #[.string y9,.func (.func 28) #[] #[.pointer (some ⟨ba0_1c0,0,none⟩),.pointer (some ⟨ba0_1c1,0,none⟩)],.func (.func 31) #[] #[.pointer (some ⟨ba0_1c1,0,none⟩),.pointer (some ⟨ba0_1c0,0,none⟩)],.func (.func 32) #[] #[.pointer (some ⟨ba0_1c0,0,none⟩),.pointer (some ⟨ba0_1c1,0,none⟩)]],.string a1]) rfl (n:=34) rfl ?_
  refine sR 2 [.inRegion (opsOf (cd45 [0])) [0,1],.code (cd45 [1])] ?_
  refine r_box (c:=(cd45 [0])) (i:=0) (d:=(some 2)) (ty:=0) (x:=(.tmp 0)) (v:=.agg #[.string y9,.func (.func 28) #[] #[.pointer (some ⟨ba0_1c0,0,none⟩),.pointer (some ⟨ba0_1c1,0,none⟩)],.func (.func 31) #[] #[.pointer (some ⟨ba0_1c1,0,none⟩),.pointer (some ⟨ba0_1c0,0,none⟩)],.func (.func 32) #[] #[.pointer (some ⟨ba0_1c0,0,none⟩),.pointer (some ⟨ba0_1c1,0,none⟩)]]) (t:=32) (cs:=[.string y9,.func (.func 28) #[] #[.pointer (some ⟨ba0_1c0,0,none⟩),.pointer (some ⟨ba0_1c1,0,none⟩)],.func (.func 31) #[] #[.pointer (some ⟨ba0_1c1,0,none⟩),.pointer (some ⟨ba0_1c0,0,none⟩)],.func (.func 32) #[] #[.pointer (some ⟨ba0_1c0,0,none⟩),.pointer (some ⟨ba0_1c1,0,none⟩)]]) hS0 (by kernel_rfl) (by kernel_rfl) (by kernel_rfl) (by kernel_rfl) ?_
  intro b1 w2 hS3
  refine sR 10 (iR (cd45 [1,1,0,0]) 1 5::.code (cd45 [1,1,0,1])::td34) ?_
  refine rL1 28 (.tmp 10) 1 (hS3.blk 0 rfl) ?_
  refine sR 1 (.inRegion (opsOf (cd45 [1,1,0,0])) [3,4,5]::.code (cd45 [1,1,0,1])::td34) ?_
  obtain ⟨⟨t5,t6,t7⟩,hr10,hp11⟩:=bind_some' hp0
  try dsimp only at hp11
  have hS16:=hS3.pick6
  have hS17:=hS16.pick6
  have hS18:=hS17.pick6
  have hS19:=hS18.pick6
  have hS20:=hS19.pick6
  have hS21:=hS20.pick6
  refine rC (weirlaw14_Net__machine_1.ok hr10 hS21 ha0_1c1v_0 ha0_1c1v_1 ha0_1c1v_2) ?_
  rintro _ w22 ⟨Q8,Q9,rfl,hS23⟩
  refine ⟨_,rfl,?_⟩
  refine sR 5 td37 ?_
  obtain ⟨v24,hv25,hp26⟩:=bind_some' hp11
  have J35 : ∀ (t27 : List explore_edge) (t31 : Bool) (t32 : List (ByteArray × Int)) (he37 : (t27,t31,t32) = v24) (l36 : List Value) (A28 : Option Addr) (c29 : Nat) (w33 : World) (hS34 : St w0 Z (xrow A28 c29 122 4 (t27.flatMap enc_explore_edge)::xblk ba0_1c0 33 ([.pointer (some ⟨ba0_1c0v,0,none⟩)])::xblk ba0_1c0v 49 ([.map (some ba0_1c0vv_0),.map (some ba0_1c0vv_1),.map (some ba0_1c0vv_2),.bool t31])::xmap ba0_1c0vv_0 (t7.map (kv Value.string (Value.int .i64)))::xmap ba0_1c0vv_1 (a0_1c0vv_1m.map (kv Value.string (Value.int .i64)))::xmap ba0_1c0vv_2 (t32.map (kv Value.string (Value.int .i64)))::xblk ba0_1c1 26 ([.slice Aa0_1c1v_0 a0_1c1v.Next.length ca0_1c1v_0,.slice Aa0_1c1v_1 a0_1c1v.End.length ca0_1c1v_1,.slice Aa0_1c1v_2 a0_1c1v.Value.length ca0_1c1v_2,.int .i64 a0_1c1v.Start])::fs) w33),Runs Try.prog (fx 45) td34 (fill (mk 36 [(5,.slice A28 t27.length c29)]) l36) w33 R:=by
   intro t27 t31 t32 he37 l36 A28 c29 w33 hS34
   subst he37
   try dsimp only at hp26
   refine sR 5 [.code (cd45 [1,1,1,1])] ?_
   refine rR (.slice A28 t27.length c29) Try.func45 ?_
   cases Option.some.inj hp26
   exact hR _ _ ⟨A28,c29,rfl,hS34⟩
  have L54 : ∀ (t39 : List explore_edge) (t43 : Int) (t44 : Bool) (t45 : List (ByteArray × Int)) (e49 : ((List explore_edge) × Bool × (List (ByteArray × Int)))),explore_moves.l0 a0_1c0vv_1m a0_1c1v a1 t5 t7 t39 t43 t44 t45 = some e49 → e49 = v24 → ∀ (l48 : List Value) (A40 : Option Addr) (c41 : Nat) (w46 : World) (hS47 : St w0 Z (xblk b1 32 ([.string y9,.func (.func 28) #[] #[.pointer (some ⟨ba0_1c0,0,none⟩),.pointer (some ⟨ba0_1c1,0,none⟩)],.func (.func 31) #[] #[.pointer (some ⟨ba0_1c1,0,none⟩),.pointer (some ⟨ba0_1c0,0,none⟩)],.func (.func 32) #[] #[.pointer (some ⟨ba0_1c0,0,none⟩),.pointer (some ⟨ba0_1c1,0,none⟩)]])::xblk ba0_1c0 33 ([.pointer (some ⟨ba0_1c0v,0,none⟩)])::xblk ba0_1c0v 49 ([.map (some ba0_1c0vv_0),.map (some ba0_1c0vv_1),.map (some ba0_1c0vv_2),.bool t44])::xmap ba0_1c0vv_0 (t7.map (kv Value.string (Value.int .i64)))::xmap ba0_1c0vv_1 (a0_1c0vv_1m.map (kv Value.string (Value.int .i64)))::xmap ba0_1c0vv_2 (t45.map (kv Value.string (Value.int .i64)))::xblk ba0_1c1 26 ([.slice Aa0_1c1v_0 a0_1c1v.Next.length ca0_1c1v_0,.slice Aa0_1c1v_1 a0_1c1v.End.length ca0_1c1v_1,.slice Aa0_1c1v_2 a0_1c1v.Value.length ca0_1c1v_2,.int .i64 a0_1c1v.Start])::xrow A40 c41 122 4 (t39.flatMap enc_explore_edge)::xrow Q8 Q9 88 3 (t5.flatMap enc_api_Pick)::fs) w46),Runs Try.prog (fx 45) td37 (fill (mk 36 [(1,.string a1),(2,.pointer (some ⟨b1,0,none⟩)),(5,.slice A40 t39.length c41),(13,.slice Q8 t5.length Q9),(14,.int .i64 (t5.length : Int)),(15,.int .i64 t43)]) l48) w46 R:=by
   refine explore_moves.l0.partial_correctness a0_1c0vv_1m a0_1c1v a1 t5 t7 (fun t39 t43 t44 t45 e49 => e49 = v24 → ∀ (l48 : List Value) (A40 : Option Addr) (c41 : Nat) (w46 : World) (hS47 : St w0 Z (xblk b1 32 ([.string y9,.func (.func 28) #[] #[.pointer (some ⟨ba0_1c0,0,none⟩),.pointer (some ⟨ba0_1c1,0,none⟩)],.func (.func 31) #[] #[.pointer (some ⟨ba0_1c1,0,none⟩),.pointer (some ⟨ba0_1c0,0,none⟩)],.func (.func 32) #[] #[.pointer (some ⟨ba0_1c0,0,none⟩),.pointer (some ⟨ba0_1c1,0,none⟩)]])::xblk ba0_1c0 33 ([.pointer (some ⟨ba0_1c0v,0,none⟩)])::xblk ba0_1c0v 49 ([.map (some ba0_1c0vv_0),.map (some ba0_1c0vv_1),.map (some ba0_1c0vv_2),.bool t44])::xmap ba0_1c0vv_0 (t7.map (kv Value.string (Value.int .i64)))::xmap ba0_1c0vv_1 (a0_1c0vv_1m.map (kv Value.string (Value.int .i64)))::xmap ba0_1c0vv_2 (t45.map (kv Value.string (Value.int .i64)))::xblk ba0_1c1 26 ([.slice Aa0_1c1v_0 a0_1c1v.Next.length ca0_1c1v_0,.slice Aa0_1c1v_1 a0_1c1v.End.length ca0_1c1v_1,.slice Aa0_1c1v_2 a0_1c1v.Value.length ca0_1c1v_2,.int .i64 a0_1c1v.Start])::xrow A40 c41 122 4 (t39.flatMap enc_explore_edge)::xrow Q8 Q9 88 3 (t5.flatMap enc_api_Pick)::fs) w46),Runs Try.prog (fx 45) td37 (fill (mk 36 [(1,.string a1),(2,.pointer (some ⟨b1,0,none⟩)),(5,.slice A40 t39.length c41),(13,.slice Q8 t5.length Q9),(14,.int .i64 (t5.length : Int)),(15,.int .i64 t43)]) l48) w46 R) ?_
   intro rec53 ih52 t39 t43 t44 t45 e49 hb51 he50 l48 A40 c41 w46 hS47
   refine sI 3 (.inRegion (opsOf (cd45 [1,1,0,1,0,0,0])) []::.code (cd45 [1,1,0,1,0,0,1])::td36) 16 hb51 (fun hp57 => ?_) fun hp125 => ?_
   ·refine sR 8 (iR p45_9 0 4::.code (cd45 [1,1,0,1,0,0,1,1,0,0,1])::td39) ?_
    obtain ⟨g58,hp59⟩:=ite_some hp57
    obtain ⟨b60,p61,hA62,-⟩:=(hS47.row 8 rfl).at_ len_api_Pick (by omega) g58.1 g58.2
    refine r_indexAddr (c:=p45_9) (i:=0) (d:=(some 17)) (ty:=0) (t:=40) (e:=88) (n:=t5.length) (cp:=Q9) (sz:=3) (kk:=.i64) (x:=(.tmp 13)) (y:=(.tmp 15)) (b:=b60) (o':=p61) (j:=t43) (by kernel_rfl) (by kernel_rfl) (slv (by kernel_rfl) hA62) (by kernel_rfl) (by kernel_rfl) (by kernel_rfl) g58.1 g58.2 ?_
    refine rLa 88 (.tmp 17) ((hS47.row 8 rfl).at2 hA62 len_api_Pick (by omega) g58.1 g58.2) ?_
    refine rA 88 (.agg (enc_api_Pick (⟨0,0,0⟩ : api_Pick)).toArray) (enc_api_Pick (⟨0,0,0⟩ : api_Pick)) hS47 ?_
    intro b64 w65 hS66
    refine rSA 88 (.tmp 7) (.tmp 18) (enc_api_Pick (gt t5 t43)) hS66 (one_api_Pick _) ?_
    intro w68 hS69
    refine sR 4 (iR p45_12 1 9::.code p45_13::td39) ?_
    refine rL1 29 (.tmp 20) 2 (hS69.blk 1 rfl) ?_
    refine sR 1 (iR p45_12 3 7::.code p45_13::td39) ?_
    refine rLa 88 (.tmp 7) (hS69.blk 0 rfl) ?_
    obtain ⟨⟨t70,t71,t72,t73⟩,hr74,hp75⟩:=bind_some' hp59
    try dsimp only at hp75
    have hS79:=hS69.pick6
    have hS80:=hS79.pick6
    have hS81:=hS80.pick6
    have hS82:=hS81.pick6
    have hS83:=hS82.pick6
    have hS84:=hS83.pick7
    refine rC (weirlaw14_Net__machine_2.ok hr74 hS84 ha0_1c1v_0 ha0_1c1v_1 ha0_1c1v_2) ?_
    rintro _ w85 ⟨rfl,hS86⟩
    refine ⟨_,rfl,?_⟩
    refine sR 10 (.code (cd45 [1,1,0,1,0,0,1,1,0,0,1,1,1])::td39) ?_
    cases t71
    ·have hp87:=ite_f hp75 rfl
     refine sR 7 td36 ?_
     have hS88:=hS86.pick6
     have hS89:=hS88.drop
     have hS90:=hS89.pick8
     have hS91:=hS90.pick8
     have hS92:=hS91.pick2
     have hS93:=hS92.pick7
     have hS94:=hS93.pick7
     have hS95:=hS94.pick7
     have hS96:=hS95.pick7
     have hS97:=hS96.pick7
     have hS98:=hS97.pick8
     refine sR 1 td37 ?_
     exact rF _ (ih52 (id t39) (IntKind.i64.wrap (t43 + 1)) t72 t73 _ hp87 he50 _ A40 c41 _ hS98)
    have hp99:=ite_t hp75 rfl
    refine sR 3 (iR p45_15 1 6::td39) ?_
    refine rLa 88 (.tmp 7) (hS86.blk 6 rfl) ?_
    refine sR 2 (.inRegion (opsOf p45_15) [4,5,6]::td39) ?_
    refine r_lit (c:=p45_15) (i:=4) (d:=(some 32)) (ty:=120) (t:=120) (e:=122) (sz:=4) (n:=1) (parts:=#[(0,(.tmp 31))]) (vs:=[(0,.agg (enc_explore_edge (⟨(gt t5 t43),t70⟩ : explore_edge)).toArray)]) (z:=zeroOf Try.prog 122) (cs':=([(⟨(gt t5 t43),t70⟩ : explore_edge)] : List explore_edge).flatMap enc_explore_edge) hS86 (by kernel_rfl) (by kernel_rfl) (by kernel_rfl) (by kernel_rfl) (by kernel_rfl) (by decide) (by decide) (by kernel_rfl) rfl (Parts.cons (c:=enc_explore_edge (⟨(gt t5 t43),t70⟩ : explore_edge)) (by kernel_rfl) (len_explore_edge _) Parts.nil) rfl ?_
    intro b101 w102 hS103
    have hS104:=hS103.pick9
    obtain ⟨g105,hp106⟩:=ite_some hp99
    refine r_append (c:=p45_15) (i:=5) (d:=(some 33)) (ty:=120) (enc:=enc_explore_edge) (e:=122) (u:=122) (t:=120) (t2:=120) (sz:=4) (cp:=c41) (A:=A40) (bytes:=40) (xs:=t39) (ys:=([(⟨(gt t5 t43),t70⟩ : explore_edge)] : List explore_edge)) (s:=(.tmp 28)) (x:=(.tmp 32)) (xv:=.slice (some ⟨b101,0,none⟩) ([(⟨(gt t5 t43),t70⟩ : explore_edge)] : List explore_edge).length 1) (info:=infoOf Try.prog 122) (z:=zeroOf Try.prog 122) (ycs:=([(⟨(gt t5 t43),t70⟩ : explore_edge)] : List explore_edge).flatMap enc_explore_edge) hS104 (by kernel_rfl) (by kernel_rfl) (by kernel_rfl) (by kernel_rfl) (by kernel_rfl) (.inl (by kernel_rfl)) (by kernel_rfl) (by kernel_rfl) (by kernel_rfl) (by kernel_rfl) (by kernel_rfl) (by omega) len_explore_edge one_explore_edge (src_row (hS104.row 1 rfl) (by omega) len_explore_edge) rfl g105 (by omega) ?_
    intro A107 c108 w109 hS110
    refine sR 7 td36 ?_
    have hS112:=hS110.pick1
    have hS113:=hS112.drop
    have hS114:=hS113.pick7
    have hS115:=hS114.drop
    have hS116:=hS115.pick8
    have hS117:=hS116.pick1
    have hS118:=hS117.pick2
    have hS119:=hS118.pick7
    have hS120:=hS119.pick7
    have hS121:=hS120.pick7
    have hS122:=hS121.pick7
    have hS123:=hS122.pick7
    have hS124:=hS123.pick8
    refine sR 1 td37 ?_
    exact rF _ (ih52 (t39 ++ ([(⟨(gt t5 t43),t70⟩ : explore_edge)] : List explore_edge)) (IntKind.i64.wrap (t43 + 1)) t72 t73 _ hp106 he50 _ A107 c108 _ hS124)
   refine sR 4 td34 ?_
   have hS126:=hS47.drop
   have hS127:=hS126.pick7
   have hS128:=hS127.drop
   have hS129:=hS128.pick5
   have hS130:=hS129.pick5
   have hS131:=hS130.pick5
   have hS132:=hS131.pick5
   have hS133:=hS132.pick5
   have hS134:=hS133.pick5
   have hS135:=hS134.pick6
   exact rF _ (J35 t39 t44 t45 ((Option.some.inj hp125).trans he50) _ A40 c41 _ hS135)
  have hS137:=hS23.nilrow none 122 4
  have hS138:=hS137.pick1
  have hS139:=hS138.pick1
  have hS140:=hS139.pick7
  have hS141:=hS140.pick7
  have hS142:=hS141.pick7
  have hS143:=hS142.pick7
  have hS144:=hS143.pick7
  have hS145:=hS144.pick7
  have hS146:=hS145.pick8
  exact rF _ (L54 [] 0 t6 a0_1c0vv_2m _ hv25 rfl _ none 0 _ hS146)

abbrev td40:List Item:=[.inBlock 1]
abbrev td41:List Item:=.code (cd14 [1,1,0,1,0,1,0,1])::td40
abbrev td42:List Item:=.code p14_9::td40
abbrev td43:List Item:=.code (cd14 [1,1,0,1,0,1,0,1,0,1])::td42
abbrev td44:List Item:=.code (cd14 [1,1,0,1,0,1,0,1,0,1,0,1])::td42
def explore_Way_r_1.f (a0 : ByteArray) (a1m : List (ByteArray × explore_visit)) (a2v3v_0 : ByteArray) (a2v3v_1c0vv_0m a2v3v_1c0vv_1m a2v3v_1c0vv_2m : List (ByteArray × Int)) (a2v3v_1c0vv_3 : Bool) (a2v3v_1c1v : weirlaw14_Net) (a2v4v : Int) (a2v5vc0v : List ByteArray) (a2v5vc1vm : List (ByteArray × Int)) (a2v6v : List api_Pick) (a2v7v a2v8v : Int) : Option (Int × (List ByteArray) × (List api_Pick) × Int × Int) :=
  (if (decide (a2v8v ≥ a2v4v)) = true then some ((1,a2v5vc0v,[],1,a2v8v)) else (weirlaw14_ExploreWay_1.f a0 a2v5vc0v a2v5vc1vm >>= (fun (t37,t38) => (if t37 = true then (explore_way.f a2v3v_0 a0 a1m >>= (fun t78 => some ((1,t38,t78,0,a2v8v)))) else some ((0,t38,a2v6v,a2v7v,(IntKind.i64.wrap (a2v8v + 1))))))))
theorem explore_Way_r_1.ok (a0 : ByteArray) (a1m : List (ByteArray × explore_visit)) (a2v3v_0 : ByteArray) (a2v3v_1c0vv_0m a2v3v_1c0vv_1m a2v3v_1c0vv_2m : List (ByteArray × Int)) (a2v3v_1c0vv_3 : Bool) (a2v3v_1c1v : weirlaw14_Net) (a2v4v : Int) (a2v5vc0v : List ByteArray) (a2v5vc1vm : List (ByteArray × Int)) (a2v6v : List api_Pick) (a2v7v a2v8v : Int) (ba1 La2 Da2 : Nat) (la2 : List Value) (ba2v3 ba2v3v_1c0 : Nat) (ba2v3v_1c0v ba2v3v_1c0vv_0 : Nat) (ba2v3v_1c0vv_1 ba2v3v_1c0vv_2 ba2v3v_1c1 : Nat) (Aa2v3v_1c1v_0 : Option Addr) (ca2v3v_1c1v_0 : Nat) (Aa2v3v_1c1v_1 : Option Addr) (ca2v3v_1c1v_1 : Nat) (Aa2v3v_1c1v_2 : Option Addr) (ca2v3v_1c1v_2 ba2v4 : Nat) (ba2v5 ba2v5vc0 : Nat) (Aa2v5vc0v : Option Addr) (ca2v5vc0v ba2v5vc1 : Nat) (ba2v5vc1v ba2v6 : Nat) (Aa2v6v : Option Addr) (ca2v6v ba2v7 ba2v8 : Nat) (hS0 : St w0 Z (xmap ba1 (a1m.map (kv Value.string (fun v => Value.agg (enc_explore_visit v).toArray)))::xlp La2 14 (fill (mk 28 [(3,.pointer (some ⟨ba2v3,0,none⟩)),(4,.pointer (some ⟨ba2v4,0,none⟩)),(5,.pointer (some ⟨ba2v5,0,none⟩)),(6,.pointer (some ⟨ba2v6,0,none⟩)),(7,.pointer (some ⟨ba2v7,0,none⟩)),(8,.pointer (some ⟨ba2v8,0,none⟩))]) la2) #[13,14] p14_0 p14_1 Da2 [p14_2] 0::xblk ba2v3 32 ([.string a2v3v_0,.func (.func 28) #[] #[.pointer (some ⟨ba2v3v_1c0,0,none⟩),.pointer (some ⟨ba2v3v_1c1,0,none⟩)],.func (.func 31) #[] #[.pointer (some ⟨ba2v3v_1c1,0,none⟩),.pointer (some ⟨ba2v3v_1c0,0,none⟩)],.func (.func 32) #[] #[.pointer (some ⟨ba2v3v_1c0,0,none⟩),.pointer (some ⟨ba2v3v_1c1,0,none⟩)]])::xblk ba2v3v_1c0 33 ([.pointer (some ⟨ba2v3v_1c0v,0,none⟩)])::xblk ba2v3v_1c0v 49 ([.map (some ba2v3v_1c0vv_0),.map (some ba2v3v_1c0vv_1),.map (some ba2v3v_1c0vv_2),.bool a2v3v_1c0vv_3])::xmap ba2v3v_1c0vv_0 (a2v3v_1c0vv_0m.map (kv Value.string (Value.int .i64)))::xmap ba2v3v_1c0vv_1 (a2v3v_1c0vv_1m.map (kv Value.string (Value.int .i64)))::xmap ba2v3v_1c0vv_2 (a2v3v_1c0vv_2m.map (kv Value.string (Value.int .i64)))::xblk ba2v3v_1c1 26 ([.slice Aa2v3v_1c1v_0 a2v3v_1c1v.Next.length ca2v3v_1c1v_0,.slice Aa2v3v_1c1v_1 a2v3v_1c1v.End.length ca2v3v_1c1v_1,.slice Aa2v3v_1c1v_2 a2v3v_1c1v.Value.length ca2v3v_1c1v_2,.int .i64 a2v3v_1c1v.Start])::xblk ba2v4 3 ([.int .i64 a2v4v])::xblk ba2v5 56 ([.func (.func 15) #[] #[.pointer (some ⟨ba2v5vc0,0,none⟩),.pointer (some ⟨ba2v5vc1,0,none⟩)]])::xblk ba2v5vc0 36 ([.slice Aa2v5vc0v a2v5vc0v.length ca2v5vc0v])::xrow Aa2v5vc0v ca2v5vc0v 9 1 (a2v5vc0v.flatMap encS)::xblk ba2v5vc1 41 ([.map (some ba2v5vc1v)])::xmap ba2v5vc1v (a2v5vc1vm.map (kv Value.string (Value.int .i64)))::xblk ba2v6 40 ([.slice Aa2v6v a2v6v.length ca2v6v])::xblk ba2v7 53 ([.int .i64 a2v7v])::xblk ba2v8 3 ([.int .i64 a2v8v])::fs) w) (ha2v3v_1c1v_0 : SlZ (repL (flat (encI .i64)) 1) 1 Z Aa2v3v_1c1v_0 ca2v3v_1c1v_0 a2v3v_1c1v.Next) (ha2v3v_1c1v_1 : SlZ (flat encB) 1 Z Aa2v3v_1c1v_1 ca2v3v_1c1v_1 a2v3v_1c1v.End) (ha2v3v_1c1v_2 : SlZ (flat (encI .i64)) 1 Z Aa2v3v_1c1v_2 ca2v3v_1c1v_2 a2v3v_1c1v.Value) (ha2v6v : SlZ (flat enc_api_Pick) 3 Z Aa2v6v ca2v6v a2v6v) {q0 : Int} {q1 : List ByteArray} {q2 : List api_Pick} {q3 q4 : Int} (hp0 : explore_Way_r_1.f a0 a1m a2v3v_0 a2v3v_1c0vv_0m a2v3v_1c0vv_1m a2v3v_1c0vv_2m a2v3v_1c0vv_3 a2v3v_1c1v a2v4v a2v5vc0v a2v5vc1vm a2v6v a2v7v a2v8v = some (q0,q1,q2,q3,q4)) :
    Rounds Try.prog La2 14 (fill (mk 28 [(3,.pointer (some ⟨ba2v3,0,none⟩)),(4,.pointer (some ⟨ba2v4,0,none⟩)),(5,.pointer (some ⟨ba2v5,0,none⟩)),(6,.pointer (some ⟨ba2v6,0,none⟩)),(7,.pointer (some ⟨ba2v7,0,none⟩)),(8,.pointer (some ⟨ba2v8,0,none⟩)),(13,.string a0),(14,.map (some ba1))]) la2).toArray p14_0 p14_1 w (fun e w' => ∃ (QA0 : Option Addr) (Qc0 : Nat) (QA2 : Option Addr) (Qc2 : Nat) (Z' : Zm),Zm.Le Z Z' ∧ e = .returned (.bool (decide (q0 = 0))) ∧ St w0 Z' (xrow QA0 Qc0 9 1 (q1.flatMap encS)::xmap ba1 (a1m.map (kv Value.string (fun v => Value.agg (enc_explore_visit v).toArray)))::xlp La2 14 (fill (mk 28 [(3,.pointer (some ⟨ba2v3,0,none⟩)),(4,.pointer (some ⟨ba2v4,0,none⟩)),(5,.pointer (some ⟨ba2v5,0,none⟩)),(6,.pointer (some ⟨ba2v6,0,none⟩)),(7,.pointer (some ⟨ba2v7,0,none⟩)),(8,.pointer (some ⟨ba2v8,0,none⟩))]) la2) #[13,14] p14_0 p14_1 Da2 [p14_2] q0::xblk ba2v3 32 ([.string a2v3v_0,.func (.func 28) #[] #[.pointer (some ⟨ba2v3v_1c0,0,none⟩),.pointer (some ⟨ba2v3v_1c1,0,none⟩)],.func (.func 31) #[] #[.pointer (some ⟨ba2v3v_1c1,0,none⟩),.pointer (some ⟨ba2v3v_1c0,0,none⟩)],.func (.func 32) #[] #[.pointer (some ⟨ba2v3v_1c0,0,none⟩),.pointer (some ⟨ba2v3v_1c1,0,none⟩)]])::xblk ba2v3v_1c0 33 ([.pointer (some ⟨ba2v3v_1c0v,0,none⟩)])::xblk ba2v3v_1c0v 49 ([.map (some ba2v3v_1c0vv_0),.map (some ba2v3v_1c0vv_1),.map (some ba2v3v_1c0vv_2),.bool a2v3v_1c0vv_3])::xmap ba2v3v_1c0vv_0 (a2v3v_1c0vv_0m.map (kv Value.string (Value.int .i64)))::xmap ba2v3v_1c0vv_1 (a2v3v_1c0vv_1m.map (kv Value.string (Value.int .i64)))::xmap ba2v3v_1c0vv_2 (a2v3v_1c0vv_2m.map (kv Value.string (Value.int .i64)))::xblk ba2v3v_1c1 26 ([.slice Aa2v3v_1c1v_0 a2v3v_1c1v.Next.length ca2v3v_1c1v_0,.slice Aa2v3v_1c1v_1 a2v3v_1c1v.End.length ca2v3v_1c1v_1,.slice Aa2v3v_1c1v_2 a2v3v_1c1v.Value.length ca2v3v_1c1v_2,.int .i64 a2v3v_1c1v.Start])::xblk ba2v4 3 ([.int .i64 a2v4v])::xblk ba2v5 56 ([.func (.func 15) #[] #[.pointer (some ⟨ba2v5vc0,0,none⟩),.pointer (some ⟨ba2v5vc1,0,none⟩)]])::xblk ba2v5vc0 36 ([.slice QA0 q1.length Qc0])::xblk ba2v5vc1 41 ([.map (some ba2v5vc1v)])::xmap ba2v5vc1v (a2v5vc1vm.map (kv Value.string (Value.int .i64)))::xblk ba2v6 40 ([.slice QA2 q2.length Qc2])::xblk ba2v7 53 ([.int .i64 q3])::xblk ba2v8 3 ([.int .i64 q4])::fs) w' ∧ SlZ (flat enc_api_Pick) 3 Z' QA2 Qc2 q2):=by
  refine rounds_abs ?_; intro R hR
  unfold explore_Way_r_1.f at hp0
  refine rounds_of_runs ?_
  refine sR 7 [.beginRound,.code p14_1] ?_
  have hS1:=hS0.pick1
  refine r_begin hS1 ?_
  intro w2 hS3
  refine sR 4 (.inRegion (opsOf p14_3) [0,1,2]::.code p14_4::td41) ?_
  refine rL1 3 (.tmp 8) 0 (hS3.blk 17 rfl) ?_
  refine rL1 3 (.tmp 4) 0 (hS3.blk 9 rfl) ?_
  refine sI 1 (.inRegion (opsOf p14_3) []::.code p14_4::td41) 17 hp0 (fun hp6 => ?_) fun hp36 => ?_
  ·refine sR 4 (.inRegion (opsOf (cd14 [1,1,0,1,0,1,0,0,1,0,0])) [0,1]::.code p14_2::td41) ?_
   have hS7:=hS3.pick15
   refine rS 40 (.tmp 6) (.const (.slice none 0 0)) 0 (.slice none 0 0) [.slice none 0 0] [.slice none 0 0] hS7 ?_
   intro w8 hS9
   have hS10:=hS9.pick16
   refine rS 53 (.tmp 7) (.const (.int .i64 1)) 0 (.int .i64 1) [.int .i64 1] [.int .i64 1] hS10 ?_
   intro w11 hS12
   refine sR 1 (.code p14_2::td41) ?_
   have hS13:=hS12.pick2
   refine r_rret hS13 [p14_2] 0 (by kernel_rfl) ?_
   intro w14 hS15
   have hS16 : St w0 Z (xlp La2 14 (fill (mk 28 [(3,.pointer (some ⟨ba2v3,0,none⟩)),(4,.pointer (some ⟨ba2v4,0,none⟩)),(5,.pointer (some ⟨ba2v5,0,none⟩)),(6,.pointer (some ⟨ba2v6,0,none⟩)),(7,.pointer (some ⟨ba2v7,0,none⟩)),(8,.pointer (some ⟨ba2v8,0,none⟩))]) la2) #[13,14] p14_0 p14_1 Da2 [p14_2] 1::xblk ba2v7 53 ([.int .i64 1])::xblk ba2v6 40 ([.slice none 0 0])::xmap ba1 (a1m.map (kv Value.string (fun v => Value.agg (enc_explore_visit v).toArray)))::xblk ba2v3 32 ([.string a2v3v_0,.func (.func 28) #[] #[.pointer (some ⟨ba2v3v_1c0,0,none⟩),.pointer (some ⟨ba2v3v_1c1,0,none⟩)],.func (.func 31) #[] #[.pointer (some ⟨ba2v3v_1c1,0,none⟩),.pointer (some ⟨ba2v3v_1c0,0,none⟩)],.func (.func 32) #[] #[.pointer (some ⟨ba2v3v_1c0,0,none⟩),.pointer (some ⟨ba2v3v_1c1,0,none⟩)]])::xblk ba2v3v_1c0 33 ([.pointer (some ⟨ba2v3v_1c0v,0,none⟩)])::xblk ba2v3v_1c0v 49 ([.map (some ba2v3v_1c0vv_0),.map (some ba2v3v_1c0vv_1),.map (some ba2v3v_1c0vv_2),.bool a2v3v_1c0vv_3])::xmap ba2v3v_1c0vv_0 (a2v3v_1c0vv_0m.map (kv Value.string (Value.int .i64)))::xmap ba2v3v_1c0vv_1 (a2v3v_1c0vv_1m.map (kv Value.string (Value.int .i64)))::xmap ba2v3v_1c0vv_2 (a2v3v_1c0vv_2m.map (kv Value.string (Value.int .i64)))::xblk ba2v3v_1c1 26 ([.slice Aa2v3v_1c1v_0 a2v3v_1c1v.Next.length ca2v3v_1c1v_0,.slice Aa2v3v_1c1v_1 a2v3v_1c1v.End.length ca2v3v_1c1v_1,.slice Aa2v3v_1c1v_2 a2v3v_1c1v.Value.length ca2v3v_1c1v_2,.int .i64 a2v3v_1c1v.Start])::xblk ba2v4 3 ([.int .i64 a2v4v])::xblk ba2v5 56 ([.func (.func 15) #[] #[.pointer (some ⟨ba2v5vc0,0,none⟩),.pointer (some ⟨ba2v5vc1,0,none⟩)]])::xblk ba2v5vc0 36 ([.slice Aa2v5vc0v a2v5vc0v.length ca2v5vc0v])::xrow Aa2v5vc0v ca2v5vc0v 9 1 (a2v5vc0v.flatMap encS)::xblk ba2v5vc1 41 ([.map (some ba2v5vc1v)])::xmap ba2v5vc1v (a2v5vc1vm.map (kv Value.string (Value.int .i64)))::xblk ba2v8 3 ([.int .i64 a2v8v])::fs) w14:=hS15
   have hS17:=hS16.pick17
   have hS18:=hS17.pick2
   have hS19:=hS18.pick3
   have hS20:=hS19.pick17
   have hS21:=hS20.pick17
   have hS22:=hS21.pick16
   have hS23:=hS22.pick16
   have hS24:=hS23.pick16
   have hS25:=hS24.pick16
   have hS26:=hS25.pick16
   have hS27:=hS26.pick16
   have hS28:=hS27.pick16
   have hS29:=hS28.pick16
   have hS30:=hS29.pick16
   have hS31:=hS30.pick16
   have hS32:=hS31.pick15
   have hS33:=hS32.pick16
   have hS34:=hS33.pick17
   cases Option.some.inj hp6
   exact hR _ _ ⟨Aa2v5vc0v,ca2v5vc0v,none,0,Z,(Zm.Le.refl _),rfl,hS34,(SlZ.nil _ _ _ _ _)⟩
  refine sR 6 (.inRegion (opsOf p14_7) [0,1,2]::td43) ?_
  refine rL1 56 (.tmp 5) 0 (hS3.blk 10 rfl) ?_
  refine sR 1 (.inRegion (opsOf p14_7) [2]::td43) ?_
  obtain ⟨⟨t37,t38⟩,hr41,hp42⟩:=bind_some' hp36
  try dsimp only at hp42
  have hS44:=hS3.pick14
  have hS45:=hS44.pick14
  have hS46:=hS45.pick14
  have hS47:=hS46.pick14
  refine rC (weirlaw14_ExploreWay_1.ok hr41 hS47) ?_
  rintro _ w48 ⟨Q39,Q40,rfl,hS49⟩
  refine ⟨_,rfl,?_⟩
  refine sR 1 td43 ?_
  cases t37
  ·have hp50:=ite_f hp42 rfl
   refine sR 3 (.inRegion (opsOf p14_9) [0,1,2]::td40) ?_
   refine rL1 3 (.tmp 8) 0 (hS49.blk 17 rfl) ?_
   refine sR 1 (.inRegion (opsOf p14_9) [2]::td40) ?_
   have hS51:=hS49.pick17
   refine rS 3 (.tmp 8) (.tmp 27) 0 (.int .i64 (IntKind.i64.wrap (a2v8v + 1))) [.int .i64 (IntKind.i64.wrap (a2v8v + 1))] [.int .i64 (IntKind.i64.wrap (a2v8v + 1))] hS51 ?_
   intro w52 hS53
   refine sR 2 [] ?_
   have hS54:=hS53.pick5
   refine r_rend hS54 [p14_2] ?_
   intro w55 hS56
   have hS57 : St w0 Z (xlp La2 14 (fill (mk 28 [(3,.pointer (some ⟨ba2v3,0,none⟩)),(4,.pointer (some ⟨ba2v4,0,none⟩)),(5,.pointer (some ⟨ba2v5,0,none⟩)),(6,.pointer (some ⟨ba2v6,0,none⟩)),(7,.pointer (some ⟨ba2v7,0,none⟩)),(8,.pointer (some ⟨ba2v8,0,none⟩))]) la2) #[13,14] p14_0 p14_1 Da2 [p14_2] 0::xblk ba2v8 3 ([.int .i64 (IntKind.i64.wrap (a2v8v + 1))])::xrow Q39 Q40 9 1 (t38.flatMap encS)::xblk ba2v5vc0 36 ([.slice Q39 t38.length Q40])::xblk ba2v5vc1 41 ([.map (some ba2v5vc1v)])::xmap ba2v5vc1v (a2v5vc1vm.map (kv Value.string (Value.int .i64)))::xmap ba1 (a1m.map (kv Value.string (fun v => Value.agg (enc_explore_visit v).toArray)))::xblk ba2v3 32 ([.string a2v3v_0,.func (.func 28) #[] #[.pointer (some ⟨ba2v3v_1c0,0,none⟩),.pointer (some ⟨ba2v3v_1c1,0,none⟩)],.func (.func 31) #[] #[.pointer (some ⟨ba2v3v_1c1,0,none⟩),.pointer (some ⟨ba2v3v_1c0,0,none⟩)],.func (.func 32) #[] #[.pointer (some ⟨ba2v3v_1c0,0,none⟩),.pointer (some ⟨ba2v3v_1c1,0,none⟩)]])::xblk ba2v3v_1c0 33 ([.pointer (some ⟨ba2v3v_1c0v,0,none⟩)])::xblk ba2v3v_1c0v 49 ([.map (some ba2v3v_1c0vv_0),.map (some ba2v3v_1c0vv_1),.map (some ba2v3v_1c0vv_2),.bool a2v3v_1c0vv_3])::xmap ba2v3v_1c0vv_0 (a2v3v_1c0vv_0m.map (kv Value.string (Value.int .i64)))::xmap ba2v3v_1c0vv_1 (a2v3v_1c0vv_1m.map (kv Value.string (Value.int .i64)))::xmap ba2v3v_1c0vv_2 (a2v3v_1c0vv_2m.map (kv Value.string (Value.int .i64)))::xblk ba2v3v_1c1 26 ([.slice Aa2v3v_1c1v_0 a2v3v_1c1v.Next.length ca2v3v_1c1v_0,.slice Aa2v3v_1c1v_1 a2v3v_1c1v.End.length ca2v3v_1c1v_1,.slice Aa2v3v_1c1v_2 a2v3v_1c1v.Value.length ca2v3v_1c1v_2,.int .i64 a2v3v_1c1v.Start])::xblk ba2v4 3 ([.int .i64 a2v4v])::xblk ba2v5 56 ([.func (.func 15) #[] #[.pointer (some ⟨ba2v5vc0,0,none⟩),.pointer (some ⟨ba2v5vc1,0,none⟩)]])::xblk ba2v6 40 ([.slice Aa2v6v a2v6v.length ca2v6v])::xblk ba2v7 53 ([.int .i64 a2v7v])::fs) w55:=hS56
   have hS58:=hS57.pick1
   have hS59:=hS58.pick17
   have hS60:=hS59.pick17
   have hS61:=hS60.pick7
   have hS62:=hS61.pick7
   have hS63:=hS62.pick7
   have hS64:=hS63.pick17
   have hS65:=hS64.pick17
   have hS66:=hS65.pick17
   have hS67:=hS66.pick17
   have hS68:=hS67.pick17
   have hS69:=hS68.pick17
   have hS70:=hS69.pick17
   have hS71:=hS70.pick17
   have hS72:=hS71.pick17
   have hS73:=hS72.pick15
   have hS74:=hS73.pick17
   have hS75:=hS74.pick17
   cases Option.some.inj hp50
   exact hR _ _ ⟨Q39,Q40,Aa2v6v,ca2v6v,Z,(Zm.Le.refl _),rfl,hS75,ha2v6v⟩
  have hp77:=ite_t hp42 rfl
  refine sR 4 (iR p14_10 1 6::td44) ?_
  refine rL1 9 (.tmp 21) 0 (hS49.blk 6 rfl) ?_
  refine sR 2 (.inRegion (opsOf p14_10) [4,5,6]::td44) ?_
  obtain ⟨t78,hr81,hp82⟩:=bind_some' hp77
  have hS84:=hS49.pick5
  refine rC (explore_way.ok hr81 hS84) ?_
  rintro _ w85 ⟨Q79,Q80,rfl,hS86⟩
  refine ⟨_,rfl,?_⟩
  have hS87:=hS86.pick16
  refine rS 40 (.tmp 6) (.tmp 25) 0 (.slice Q79 t78.length Q80) [.slice Q79 t78.length Q80] [.slice Q79 t78.length Q80] hS87 ?_
  intro w88 hS89
  have hS90:=hS89.pick17
  refine rS 53 (.tmp 7) (.const (.int .i64 0)) 0 (.int .i64 0) [.int .i64 0] [.int .i64 0] hS90 ?_
  intro w91 hS92
  refine sR 1 td44 ?_
  have hS93:=hS92.pick8
  refine r_rret hS93 [p14_2] 0 (by kernel_rfl) ?_
  intro w94 hS95
  have hS96 : St w0 Z (xlp La2 14 (fill (mk 28 [(3,.pointer (some ⟨ba2v3,0,none⟩)),(4,.pointer (some ⟨ba2v4,0,none⟩)),(5,.pointer (some ⟨ba2v5,0,none⟩)),(6,.pointer (some ⟨ba2v6,0,none⟩)),(7,.pointer (some ⟨ba2v7,0,none⟩)),(8,.pointer (some ⟨ba2v8,0,none⟩))]) la2) #[13,14] p14_0 p14_1 Da2 [p14_2] 1::xblk ba2v7 53 ([.int .i64 0])::xblk ba2v6 40 ([.slice Q79 t78.length Q80])::xrow Q79 Q80 88 3 (t78.flatMap enc_api_Pick)::xmap ba1 (a1m.map (kv Value.string (fun v => Value.agg (enc_explore_visit v).toArray)))::xrow Q39 Q40 9 1 (t38.flatMap encS)::xblk ba2v5vc0 36 ([.slice Q39 t38.length Q40])::xblk ba2v5vc1 41 ([.map (some ba2v5vc1v)])::xmap ba2v5vc1v (a2v5vc1vm.map (kv Value.string (Value.int .i64)))::xblk ba2v3 32 ([.string a2v3v_0,.func (.func 28) #[] #[.pointer (some ⟨ba2v3v_1c0,0,none⟩),.pointer (some ⟨ba2v3v_1c1,0,none⟩)],.func (.func 31) #[] #[.pointer (some ⟨ba2v3v_1c1,0,none⟩),.pointer (some ⟨ba2v3v_1c0,0,none⟩)],.func (.func 32) #[] #[.pointer (some ⟨ba2v3v_1c0,0,none⟩),.pointer (some ⟨ba2v3v_1c1,0,none⟩)]])::xblk ba2v3v_1c0 33 ([.pointer (some ⟨ba2v3v_1c0v,0,none⟩)])::xblk ba2v3v_1c0v 49 ([.map (some ba2v3v_1c0vv_0),.map (some ba2v3v_1c0vv_1),.map (some ba2v3v_1c0vv_2),.bool a2v3v_1c0vv_3])::xmap ba2v3v_1c0vv_0 (a2v3v_1c0vv_0m.map (kv Value.string (Value.int .i64)))::xmap ba2v3v_1c0vv_1 (a2v3v_1c0vv_1m.map (kv Value.string (Value.int .i64)))::xmap ba2v3v_1c0vv_2 (a2v3v_1c0vv_2m.map (kv Value.string (Value.int .i64)))::xblk ba2v3v_1c1 26 ([.slice Aa2v3v_1c1v_0 a2v3v_1c1v.Next.length ca2v3v_1c1v_0,.slice Aa2v3v_1c1v_1 a2v3v_1c1v.End.length ca2v3v_1c1v_1,.slice Aa2v3v_1c1v_2 a2v3v_1c1v.Value.length ca2v3v_1c1v_2,.int .i64 a2v3v_1c1v.Start])::xblk ba2v4 3 ([.int .i64 a2v4v])::xblk ba2v5 56 ([.func (.func 15) #[] #[.pointer (some ⟨ba2v5vc0,0,none⟩),.pointer (some ⟨ba2v5vc1,0,none⟩)]])::xblk ba2v8 3 ([.int .i64 a2v8v])::fs) w94:=hS95
  have hS97:=hS96.pick3
  obtain ⟨Z98,hz99,hS100,hs101,-⟩:=hS97.lendrow len_api_Pick (by omega)
  have hS102:=hS100.pick17
  have hS103:=hS102.pick2
  have hS104:=hS103.pick3
  have hS105:=hS104.pick8
  have hS106:=hS105.pick8
  have hS107:=hS106.pick8
  have hS108:=hS107.pick17
  have hS109:=hS108.pick17
  have hS110:=hS109.pick17
  have hS111:=hS110.pick17
  have hS112:=hS111.pick17
  have hS113:=hS112.pick17
  have hS114:=hS113.pick17
  have hS115:=hS114.pick17
  have hS116:=hS115.pick17
  have hS117:=hS116.pick15
  have hS118:=hS117.pick16
  have hS119:=hS118.pick17
  cases Option.some.inj hp82
  exact hR _ _ ⟨Q39,Q40,Q79,Q80,Z98,hz99,rfl,hS119,hs101⟩

noncomputable def cd44 (p : List Nat) : Code := sub (bodyOf Try.f44) p
abbrev p44_0:=cd44 [0]
abbrev p44_12:=cd44 [1,1,0,0,1,0,1,1,0,0]
abbrev p44_14:=cd44 [1,1,0,0,1,0,1,1,1]
abbrev p44_15:=cd44 [1,1,0,0,1,0,1,1,1,0]
abbrev p44_16:=cd44 [1,1,0,0,1,0,1,1,1,1]
abbrev p44_20:=cd44 [1,1,0,0,1,0,1,1,1,1,1,1,0,0]
abbrev p44_23:=cd44 [1,1,0,0,1,0,1,1,1,1,1,1,0,0,1,1,0,0,0]
abbrev p44_26:=cd44 [1,1,0,0,1,0,1,1,1,1,1,1,0,0,1,1,0,0,1,0]
abbrev p44_27:=cd44 [1,1,0,0,1,0,1,1,1,1,1,1,0,0,1,1,0,0,1,1]
abbrev p44_28:=cd44 [1,1,0,0,1,0,1,1,1,1,1,1,0,0,1,1,0,0,1,1,0]
abbrev p44_30:=cd44 [1,1,0,0,1,0,1,1,1,1,1,1,0,0,1,1,0,0,1,1,1,0,0]
abbrev p44_31:=cd44 [1,1,0,0,1,0,1,1,1,1,1,1,0,0,1,1,0,0,1,1,1,0,1]
abbrev td45:List Item:=[.inBlock 0]
abbrev td46:List Item:=.inLoop (cd44 [1,1,0,0])::td45
abbrev td47:List Item:=.code (cd44 [1,1,0,0])::td46
abbrev td48:List Item:=.inBlock 1::td46
abbrev td49:List Item:=.inBlock 2::td48
abbrev td50:List Item:=.inLoop p44_20::td49
abbrev td51:List Item:=.code p44_20::td50
abbrev td52:List Item:=.code (cd44 [1,1,0,0,1,0,1,1,1,1,1,1,0,0,1,1,1])::td50
abbrev td53:List Item:=.inBlock 3::td52
abbrev td54:List Item:=.code (cd44 [1,1,0,0,1,0,1,1,1,1,1,1,0,0,1,1,0,0,1,1,1])::td53
abbrev td55:List Item:=.code p44_28::td54
abbrev td56:List Item:=.code p44_31::td53
def explore_walk_1.l1 (t59 : List ByteArray) (t148 : List explore_edge) (t181 : List ByteArray) (t185 : Int) (t186 : List (ByteArray × explore_visit)) : Option ((List ByteArray) × (List (ByteArray × explore_visit))) :=
  (if (decide (t185 < (t148.length : Int))) = true then (if 0 ≤ t185 ∧ t185 < (t148.length : Int) then (((if (mget t186 ((gt t148 t185).to)).isSome = true then some (true) else some (false)) : Option Bool) >>= (fun t214 => (if (!t214) = true then (if (t181.length + ([(gt t148 t185).to] : List ByteArray).length) * 16 ≤ 140737488355328 then (explore_walk_1.l1 t59 t148 (t181 ++ ([(gt t148 t185).to] : List ByteArray)) (IntKind.i64.wrap (t185 + 1)) (mput t186 ((gt t148 t185).to) (⟨(IntKind.i64.wrap ((((mget t186 (gt t59 (0 : Int))).getD (⟨0,(⟨#[]⟩ : ByteArray),⟨0,0,0⟩⟩ : explore_visit)).depth) + 1)),(gt t59 (0 : Int)),(gt t148 t185).by_⟩ : explore_visit))) else none) else (explore_walk_1.l1 t59 t148 (id t181) (IntKind.i64.wrap (t185 + 1)) (id t186))))) else none) else some ((t181,t186)))
 partial_fixpoint
def explore_walk_1.l0 (a0c0v3v_0 : ByteArray) (a0c0v3v_1c0vv_1m : List (ByteArray × Int)) (a0c0v3v_1c1v : weirlaw14_Net) (a0c0v4v : Int) (a0c0v5vc1vm : List (ByteArray × Int)) (y19 : ByteArray) (t59 : List ByteArray) (t63 : Bool) (t64 t65 : List (ByteArray × Int)) (t66 : List ByteArray) (t70 : List api_Pick) (t75 t76 : Int) (t77 : List (ByteArray × explore_visit)) : Option (Sum (Bool × (List (ByteArray × Int)) × (List (ByteArray × Int)) × (List ByteArray) × (List api_Pick) × Int × Int) (Int × Bool × (List (ByteArray × Int)) × (List (ByteArray × Int)) × (List ByteArray) × (List api_Pick) × Int × Int)) :=
  (if (decide ((t59.length : Int) > 0)) = true then (if 0 ≤ (0 : Int) ∧ (0 : Int) < (t59.length : Int) then (if 0 ≤ (1 : Int) ∧ (1 : Int) ≤ (t59.length : Int) then (explore_Way_r_1.f (gt t59 (0 : Int)) t77 a0c0v3v_0 t64 a0c0v3v_1c0vv_1m t65 t63 a0c0v3v_1c1v a0c0v4v t66 a0c0v5vc1vm t70 t75 t76 >>= (fun (t106,t107,t108,t109,t110) => (if decide (t106 = 0) = true then (explore_moves.f y19 t64 a0c0v3v_1c0vv_1m t65 t63 a0c0v3v_1c1v (gt t59 (0 : Int)) >>= (fun (t148,t149,t150,t151) => (explore_walk_1.l1 t59 t148 ((t59.take t59.length).drop ((1 : Int).toNat)) 0 t77 >>= (fun (t171,t175) => (explore_walk_1.l0 a0c0v3v_0 a0c0v3v_1c0vv_1m a0c0v3v_1c1v a0c0v4v a0c0v5vc1vm y19 t171 t149 t150 t151 t107 t108 t109 t110 t175))))) else some (.inr ((t106,t63,t64,t65,t107,t108,t109,t110)))))) else none) else none) else some (.inl (t63,t64,t65,t66,t70,t75,t76)))
 partial_fixpoint
def explore_walk_1.f (a0c0v3v_0 : ByteArray) (a0c0v3v_1c0vv_0m a0c0v3v_1c0vv_1m a0c0v3v_1c0vv_2m : List (ByteArray × Int)) (a0c0v3v_1c0vv_3 : Bool) (a0c0v3v_1c1v : weirlaw14_Net) (a0c0v4v : Int) (a0c0v5vc0v : List ByteArray) (a0c0v5vc1vm : List (ByteArray × Int)) (a0c0v7v a0c0v8v : Int) (y19 : ByteArray) : Option (Int × Bool × (List (ByteArray × Int)) × (List (ByteArray × Int)) × (List ByteArray) × (List api_Pick) × Int × Int) :=
  (explore_walk_1.l0 a0c0v3v_0 a0c0v3v_1c0vv_1m a0c0v3v_1c1v a0c0v4v a0c0v5vc1vm y19 ([y19] : List ByteArray) a0c0v3v_1c0vv_3 a0c0v3v_1c0vv_0m a0c0v3v_1c0vv_2m a0c0v5vc0v [] a0c0v7v a0c0v8v (mput ([] : List (ByteArray × explore_visit)) y19 (⟨0,(⟨#[]⟩ : ByteArray),(⟨0,0,0⟩ : api_Pick)⟩ : explore_visit)) >>= (fun | .inl (t17,t18,t19,t20,t24,t29,t30) => some ((0,t17,t18,t19,t20,t24,t29,t30)) | .inr e => some e))
theorem explore_walk_1.ok {a0c0v3v_0 : ByteArray} {a0c0v3v_1c0vv_0m a0c0v3v_1c0vv_1m a0c0v3v_1c0vv_2m : List (ByteArray × Int)} {a0c0v3v_1c0vv_3 : Bool} {a0c0v3v_1c1v : weirlaw14_Net} {a0c0v4v : Int} {a0c0v5vc0v : List ByteArray} {a0c0v5vc1vm : List (ByteArray × Int)} {a0c0v7v a0c0v8v : Int} {y19 : ByteArray} {La0c0 Da0c0 : Nat} {la0c0 : List Value} {ba0c0v3 ba0c0v3v_1c0 : Nat} {ba0c0v3v_1c0v ba0c0v3v_1c0vv_0 : Nat} {ba0c0v3v_1c0vv_1 ba0c0v3v_1c0vv_2 ba0c0v3v_1c1 : Nat} {Aa0c0v3v_1c1v_0 : Option Addr} {ca0c0v3v_1c1v_0 : Nat} {Aa0c0v3v_1c1v_1 : Option Addr} {ca0c0v3v_1c1v_1 : Nat} {Aa0c0v3v_1c1v_2 : Option Addr} {ca0c0v3v_1c1v_2 ba0c0v4 : Nat} {ba0c0v5 ba0c0v5vc0 : Nat} {Aa0c0v5vc0v : Option Addr} {ca0c0v5vc0v ba0c0v5vc1 : Nat} {ba0c0v5vc1v ba0c0v6 : Nat} {ba0c0v7 ba0c0v8 : Nat} {ba1 ba2 : Nat} {q0 : Int} {q1 : Bool} {q2 q3 : List (ByteArray × Int)} {q4 : List ByteArray} {q5 : List api_Pick} {q6 q7 : Int} (hp0 : explore_walk_1.f a0c0v3v_0 a0c0v3v_1c0vv_0m a0c0v3v_1c0vv_1m a0c0v3v_1c0vv_2m a0c0v3v_1c0vv_3 a0c0v3v_1c1v a0c0v4v a0c0v5vc0v a0c0v5vc1vm a0c0v7v a0c0v8v y19 = some (q0,q1,q2,q3,q4,q5,q6,q7)) (hS0 : St w0 Z (xlp La0c0 14 (fill (mk 28 [(3,.pointer (some ⟨ba0c0v3,0,none⟩)),(4,.pointer (some ⟨ba0c0v4,0,none⟩)),(5,.pointer (some ⟨ba0c0v5,0,none⟩)),(6,.pointer (some ⟨ba0c0v6,0,none⟩)),(7,.pointer (some ⟨ba0c0v7,0,none⟩)),(8,.pointer (some ⟨ba0c0v8,0,none⟩))]) la0c0) #[13,14] p14_0 p14_1 Da0c0 [p14_2] 0::xblk ba0c0v3 32 ([.string a0c0v3v_0,.func (.func 28) #[] #[.pointer (some ⟨ba0c0v3v_1c0,0,none⟩),.pointer (some ⟨ba0c0v3v_1c1,0,none⟩)],.func (.func 31) #[] #[.pointer (some ⟨ba0c0v3v_1c1,0,none⟩),.pointer (some ⟨ba0c0v3v_1c0,0,none⟩)],.func (.func 32) #[] #[.pointer (some ⟨ba0c0v3v_1c0,0,none⟩),.pointer (some ⟨ba0c0v3v_1c1,0,none⟩)]])::xblk ba0c0v3v_1c0 33 ([.pointer (some ⟨ba0c0v3v_1c0v,0,none⟩)])::xblk ba0c0v3v_1c0v 49 ([.map (some ba0c0v3v_1c0vv_0),.map (some ba0c0v3v_1c0vv_1),.map (some ba0c0v3v_1c0vv_2),.bool a0c0v3v_1c0vv_3])::xmap ba0c0v3v_1c0vv_0 (a0c0v3v_1c0vv_0m.map (kv Value.string (Value.int .i64)))::xmap ba0c0v3v_1c0vv_1 (a0c0v3v_1c0vv_1m.map (kv Value.string (Value.int .i64)))::xmap ba0c0v3v_1c0vv_2 (a0c0v3v_1c0vv_2m.map (kv Value.string (Value.int .i64)))::xblk ba0c0v3v_1c1 26 ([.slice Aa0c0v3v_1c1v_0 a0c0v3v_1c1v.Next.length ca0c0v3v_1c1v_0,.slice Aa0c0v3v_1c1v_1 a0c0v3v_1c1v.End.length ca0c0v3v_1c1v_1,.slice Aa0c0v3v_1c1v_2 a0c0v3v_1c1v.Value.length ca0c0v3v_1c1v_2,.int .i64 a0c0v3v_1c1v.Start])::xblk ba0c0v4 3 ([.int .i64 a0c0v4v])::xblk ba0c0v5 56 ([.func (.func 15) #[] #[.pointer (some ⟨ba0c0v5vc0,0,none⟩),.pointer (some ⟨ba0c0v5vc1,0,none⟩)]])::xblk ba0c0v5vc0 36 ([.slice Aa0c0v5vc0v a0c0v5vc0v.length ca0c0v5vc0v])::xrow Aa0c0v5vc0v ca0c0v5vc0v 9 1 (a0c0v5vc0v.flatMap encS)::xblk ba0c0v5vc1 41 ([.map (some ba0c0v5vc1v)])::xmap ba0c0v5vc1v (a0c0v5vc1vm.map (kv Value.string (Value.int .i64)))::xblk ba0c0v6 40 ([.slice none 0 0])::xblk ba0c0v7 53 ([.int .i64 a0c0v7v])::xblk ba0c0v8 3 ([.int .i64 a0c0v8v])::xblk ba1 32 ([.string y19,.func (.func 28) #[] #[.pointer (some ⟨ba0c0v3v_1c0,0,none⟩),.pointer (some ⟨ba0c0v3v_1c1,0,none⟩)],.func (.func 31) #[] #[.pointer (some ⟨ba0c0v3v_1c1,0,none⟩),.pointer (some ⟨ba0c0v3v_1c0,0,none⟩)],.func (.func 32) #[] #[.pointer (some ⟨ba0c0v3v_1c0,0,none⟩),.pointer (some ⟨ba0c0v3v_1c1,0,none⟩)]])::xblk ba2 130 ([.nilFunc])::fs) w) (ha0c0v3v_1c1v_0 : SlZ (repL (flat (encI .i64)) 1) 1 Z Aa0c0v3v_1c1v_0 ca0c0v3v_1c1v_0 a0c0v3v_1c1v.Next) (ha0c0v3v_1c1v_1 : SlZ (flat encB) 1 Z Aa0c0v3v_1c1v_1 ca0c0v3v_1c1v_1 a0c0v3v_1c1v.End) (ha0c0v3v_1c1v_2 : SlZ (flat (encI .i64)) 1 Z Aa0c0v3v_1c1v_2 ca0c0v3v_1c1v_2 a0c0v3v_1c1v.Value) :
    Calls Try.prog 44 #[.func (.yield La0c0) #[] #[],.pointer (some ⟨ba1,0,none⟩),.pointer (some ⟨ba2,0,none⟩)] w (fun e w' => ∃ (QA0 : Option Addr) (Qc0 : Nat) (QA2 : Option Addr) (Qc2 : Nat) (Z' : Zm),Zm.Le Z Z' ∧ e = .returned (.tuple #[]) ∧ St w0 Z' (xrow QA0 Qc0 9 1 (q4.flatMap encS)::xlp La0c0 14 (fill (mk 28 [(3,.pointer (some ⟨ba0c0v3,0,none⟩)),(4,.pointer (some ⟨ba0c0v4,0,none⟩)),(5,.pointer (some ⟨ba0c0v5,0,none⟩)),(6,.pointer (some ⟨ba0c0v6,0,none⟩)),(7,.pointer (some ⟨ba0c0v7,0,none⟩)),(8,.pointer (some ⟨ba0c0v8,0,none⟩))]) la0c0) #[13,14] p14_0 p14_1 Da0c0 [p14_2] q0::xblk ba0c0v3 32 ([.string a0c0v3v_0,.func (.func 28) #[] #[.pointer (some ⟨ba0c0v3v_1c0,0,none⟩),.pointer (some ⟨ba0c0v3v_1c1,0,none⟩)],.func (.func 31) #[] #[.pointer (some ⟨ba0c0v3v_1c1,0,none⟩),.pointer (some ⟨ba0c0v3v_1c0,0,none⟩)],.func (.func 32) #[] #[.pointer (some ⟨ba0c0v3v_1c0,0,none⟩),.pointer (some ⟨ba0c0v3v_1c1,0,none⟩)]])::xblk ba0c0v3v_1c0 33 ([.pointer (some ⟨ba0c0v3v_1c0v,0,none⟩)])::xblk ba0c0v3v_1c0v 49 ([.map (some ba0c0v3v_1c0vv_0),.map (some ba0c0v3v_1c0vv_1),.map (some ba0c0v3v_1c0vv_2),.bool q1])::xmap ba0c0v3v_1c0vv_0 (q2.map (kv Value.string (Value.int .i64)))::xmap ba0c0v3v_1c0vv_1 (a0c0v3v_1c0vv_1m.map (kv Value.string (Value.int .i64)))::xmap ba0c0v3v_1c0vv_2 (q3.map (kv Value.string (Value.int .i64)))::xblk ba0c0v3v_1c1 26 ([.slice Aa0c0v3v_1c1v_0 a0c0v3v_1c1v.Next.length ca0c0v3v_1c1v_0,.slice Aa0c0v3v_1c1v_1 a0c0v3v_1c1v.End.length ca0c0v3v_1c1v_1,.slice Aa0c0v3v_1c1v_2 a0c0v3v_1c1v.Value.length ca0c0v3v_1c1v_2,.int .i64 a0c0v3v_1c1v.Start])::xblk ba0c0v4 3 ([.int .i64 a0c0v4v])::xblk ba0c0v5 56 ([.func (.func 15) #[] #[.pointer (some ⟨ba0c0v5vc0,0,none⟩),.pointer (some ⟨ba0c0v5vc1,0,none⟩)]])::xblk ba0c0v5vc0 36 ([.slice QA0 q4.length Qc0])::xblk ba0c0v5vc1 41 ([.map (some ba0c0v5vc1v)])::xmap ba0c0v5vc1v (a0c0v5vc1vm.map (kv Value.string (Value.int .i64)))::xblk ba0c0v6 40 ([.slice QA2 q5.length Qc2])::xblk ba0c0v7 53 ([.int .i64 q6])::xblk ba0c0v8 3 ([.int .i64 q7])::xblk ba1 32 ([.string y19,.func (.func 28) #[] #[.pointer (some ⟨ba0c0v3v_1c0,0,none⟩),.pointer (some ⟨ba0c0v3v_1c1,0,none⟩)],.func (.func 31) #[] #[.pointer (some ⟨ba0c0v3v_1c1,0,none⟩),.pointer (some ⟨ba0c0v3v_1c0,0,none⟩)],.func (.func 32) #[] #[.pointer (some ⟨ba0c0v3v_1c0,0,none⟩),.pointer (some ⟨ba0c0v3v_1c1,0,none⟩)]])::xblk ba2 130 ([.nilFunc])::fs) w' ∧ SlZ (flat enc_api_Pick) 3 Z' QA2 Qc2 q5):=by
  refine calls_abs ?_; intro R hR
  unfold explore_walk_1.f at hp0
  refine calls_of_runs (fn:=Try.f44) (c:=cd44 []) Try.func44 (by kernel_rfl) (al:=[.func (.yield La0c0) #[] #[],.pointer (some ⟨ba1,0,none⟩),.pointer (some ⟨ba2,0,none⟩)]) rfl (n:=72) rfl ?_
  refine sR 2 [iR p44_0 0 7,.code (cd44 [1])] ?_
  refine r_makeMap (c:=p44_0) (i:=0) (d:=(some 12)) (ty:=100) (t:=100) hS0 (by kernel_rfl) (by kernel_rfl) ?_
  intro b1 w2 hS3
  have hS5 : St w0 Z (xmap b1 (([] : List (ByteArray × explore_visit)).map (kv Value.string (fun v => Value.agg (enc_explore_visit v).toArray)))::xlp La0c0 14 (fill (mk 28 [(3,.pointer (some ⟨ba0c0v3,0,none⟩)),(4,.pointer (some ⟨ba0c0v4,0,none⟩)),(5,.pointer (some ⟨ba0c0v5,0,none⟩)),(6,.pointer (some ⟨ba0c0v6,0,none⟩)),(7,.pointer (some ⟨ba0c0v7,0,none⟩)),(8,.pointer (some ⟨ba0c0v8,0,none⟩))]) la0c0) #[13,14] p14_0 p14_1 Da0c0 [p14_2] 0::xblk ba0c0v3 32 ([.string a0c0v3v_0,.func (.func 28) #[] #[.pointer (some ⟨ba0c0v3v_1c0,0,none⟩),.pointer (some ⟨ba0c0v3v_1c1,0,none⟩)],.func (.func 31) #[] #[.pointer (some ⟨ba0c0v3v_1c1,0,none⟩),.pointer (some ⟨ba0c0v3v_1c0,0,none⟩)],.func (.func 32) #[] #[.pointer (some ⟨ba0c0v3v_1c0,0,none⟩),.pointer (some ⟨ba0c0v3v_1c1,0,none⟩)]])::xblk ba0c0v3v_1c0 33 ([.pointer (some ⟨ba0c0v3v_1c0v,0,none⟩)])::xblk ba0c0v3v_1c0v 49 ([.map (some ba0c0v3v_1c0vv_0),.map (some ba0c0v3v_1c0vv_1),.map (some ba0c0v3v_1c0vv_2),.bool a0c0v3v_1c0vv_3])::xmap ba0c0v3v_1c0vv_0 (a0c0v3v_1c0vv_0m.map (kv Value.string (Value.int .i64)))::xmap ba0c0v3v_1c0vv_1 (a0c0v3v_1c0vv_1m.map (kv Value.string (Value.int .i64)))::xmap ba0c0v3v_1c0vv_2 (a0c0v3v_1c0vv_2m.map (kv Value.string (Value.int .i64)))::xblk ba0c0v3v_1c1 26 ([.slice Aa0c0v3v_1c1v_0 a0c0v3v_1c1v.Next.length ca0c0v3v_1c1v_0,.slice Aa0c0v3v_1c1v_1 a0c0v3v_1c1v.End.length ca0c0v3v_1c1v_1,.slice Aa0c0v3v_1c1v_2 a0c0v3v_1c1v.Value.length ca0c0v3v_1c1v_2,.int .i64 a0c0v3v_1c1v.Start])::xblk ba0c0v4 3 ([.int .i64 a0c0v4v])::xblk ba0c0v5 56 ([.func (.func 15) #[] #[.pointer (some ⟨ba0c0v5vc0,0,none⟩),.pointer (some ⟨ba0c0v5vc1,0,none⟩)]])::xblk ba0c0v5vc0 36 ([.slice Aa0c0v5vc0v a0c0v5vc0v.length ca0c0v5vc0v])::xrow Aa0c0v5vc0v ca0c0v5vc0v 9 1 (a0c0v5vc0v.flatMap encS)::xblk ba0c0v5vc1 41 ([.map (some ba0c0v5vc1v)])::xmap ba0c0v5vc1v (a0c0v5vc1vm.map (kv Value.string (Value.int .i64)))::xblk ba0c0v6 40 ([.slice none 0 0])::xblk ba0c0v7 53 ([.int .i64 a0c0v7v])::xblk ba0c0v8 3 ([.int .i64 a0c0v8v])::xblk ba1 32 ([.string y19,.func (.func 28) #[] #[.pointer (some ⟨ba0c0v3v_1c0,0,none⟩),.pointer (some ⟨ba0c0v3v_1c1,0,none⟩)],.func (.func 31) #[] #[.pointer (some ⟨ba0c0v3v_1c1,0,none⟩),.pointer (some ⟨ba0c0v3v_1c0,0,none⟩)],.func (.func 32) #[] #[.pointer (some ⟨ba0c0v3v_1c0,0,none⟩),.pointer (some ⟨ba0c0v3v_1c1,0,none⟩)]])::xblk ba2 130 ([.nilFunc])::fs) w2:=hS3
  refine sR 1 [iR p44_0 2 5,.code (cd44 [1])] ?_
  refine rL1 9 (.tmp 13) 0 (hS5.blk 18 rfl) ?_
  refine sR 1 [.inRegion (opsOf p44_0) [4,5,6],.code (cd44 [1])] ?_
  refine r_insert (c:=p44_0) (i:=4) (d:=none) (ty:=0) (eK:=Value.string) (eV:=(fun v => Value.agg (enc_explore_visit v).toArray)) (dk:=.string) (b:=b1) (t:=100) (kt:=9) (et:=102) (x:=(.tmp 12)) (y:=(.tmp 14)) (z:=(.tmp 15)) (m:=([] : List (ByteArray × explore_visit))) (kk:=y19) (v:=(⟨0,(⟨#[]⟩ : ByteArray),(⟨0,0,0⟩ : api_Pick)⟩ : explore_visit)) hS5 (by kernel_rfl) (by kernel_rfl) key_str (by kernel_rfl) (by kernel_rfl) (by kernel_rfl) (by kernel_rfl) (by kernel_rfl) ?_
  intro w6 hS7
  refine sR 6 [.inRegion (opsOf (cd44 [1,0])) [1,2,3],.code (cd44 [1,1])] ?_
  refine rL1 9 (.tmp 17) 0 (hS7.blk 18 rfl) ?_
  refine r_lit (c:=(cd44 [1,0])) (i:=2) (d:=(some 19)) (ty:=36) (t:=36) (e:=9) (sz:=1) (n:=1) (parts:=#[(0,(.tmp 18))]) (vs:=[(0,.string y19)]) (z:=zeroOf Try.prog 9) (cs':=([y19] : List ByteArray).flatMap encS) hS7 (by kernel_rfl) (by kernel_rfl) (by kernel_rfl) (by kernel_rfl) (by kernel_rfl) (by decide) (by decide) (by kernel_rfl) rfl (Parts.cons (c:=[.string y19]) (by kernel_rfl) rfl Parts.nil) rfl ?_
  intro b9 w10 hS11
  refine sR 4 td47 ?_
  obtain ⟨v12,hv13,hp14⟩:=bind_some' hp0
  have hq33 : ∀ x,Sum.inr x = v12 → x = (q0,q1,q2,q3,q4,q5,q6,q7):=by intro x hx; subst hx; simpa using hp14
  have J34 : ∀ (t17 : Bool) (t18 t19 : List (ByteArray × Int)) (t20 : List ByteArray) (t24 : List api_Pick) (t29 t30 : Int) (he36 : Sum.inl (t17,t18,t19,t20,t24,t29,t30) = v12) (l35 : List Value) (Z15 : Zm) (A21 : Option Addr) (c22 : Nat) (A25 : Option Addr) (c26 : Nat) (w31 : World) (hz16 : Zm.Le Z Z15) (hS32 : St w0 Z15 (xlp La0c0 14 (fill (mk 28 [(3,.pointer (some ⟨ba0c0v3,0,none⟩)),(4,.pointer (some ⟨ba0c0v4,0,none⟩)),(5,.pointer (some ⟨ba0c0v5,0,none⟩)),(6,.pointer (some ⟨ba0c0v6,0,none⟩)),(7,.pointer (some ⟨ba0c0v7,0,none⟩)),(8,.pointer (some ⟨ba0c0v8,0,none⟩))]) la0c0) #[13,14] p14_0 p14_1 Da0c0 [p14_2] 0::xblk ba0c0v3 32 ([.string a0c0v3v_0,.func (.func 28) #[] #[.pointer (some ⟨ba0c0v3v_1c0,0,none⟩),.pointer (some ⟨ba0c0v3v_1c1,0,none⟩)],.func (.func 31) #[] #[.pointer (some ⟨ba0c0v3v_1c1,0,none⟩),.pointer (some ⟨ba0c0v3v_1c0,0,none⟩)],.func (.func 32) #[] #[.pointer (some ⟨ba0c0v3v_1c0,0,none⟩),.pointer (some ⟨ba0c0v3v_1c1,0,none⟩)]])::xblk ba0c0v3v_1c0 33 ([.pointer (some ⟨ba0c0v3v_1c0v,0,none⟩)])::xblk ba0c0v3v_1c0v 49 ([.map (some ba0c0v3v_1c0vv_0),.map (some ba0c0v3v_1c0vv_1),.map (some ba0c0v3v_1c0vv_2),.bool t17])::xmap ba0c0v3v_1c0vv_0 (t18.map (kv Value.string (Value.int .i64)))::xmap ba0c0v3v_1c0vv_1 (a0c0v3v_1c0vv_1m.map (kv Value.string (Value.int .i64)))::xmap ba0c0v3v_1c0vv_2 (t19.map (kv Value.string (Value.int .i64)))::xblk ba0c0v3v_1c1 26 ([.slice Aa0c0v3v_1c1v_0 a0c0v3v_1c1v.Next.length ca0c0v3v_1c1v_0,.slice Aa0c0v3v_1c1v_1 a0c0v3v_1c1v.End.length ca0c0v3v_1c1v_1,.slice Aa0c0v3v_1c1v_2 a0c0v3v_1c1v.Value.length ca0c0v3v_1c1v_2,.int .i64 a0c0v3v_1c1v.Start])::xblk ba0c0v4 3 ([.int .i64 a0c0v4v])::xblk ba0c0v5 56 ([.func (.func 15) #[] #[.pointer (some ⟨ba0c0v5vc0,0,none⟩),.pointer (some ⟨ba0c0v5vc1,0,none⟩)]])::xblk ba0c0v5vc0 36 ([.slice A21 t20.length c22])::xrow A21 c22 9 1 (t20.flatMap encS)::xblk ba0c0v5vc1 41 ([.map (some ba0c0v5vc1v)])::xmap ba0c0v5vc1v (a0c0v5vc1vm.map (kv Value.string (Value.int .i64)))::xblk ba0c0v6 40 ([.slice A25 t24.length c26])::xblk ba0c0v7 53 ([.int .i64 t29])::xblk ba0c0v8 3 ([.int .i64 t30])::xblk ba1 32 ([.string y19,.func (.func 28) #[] #[.pointer (some ⟨ba0c0v3v_1c0,0,none⟩),.pointer (some ⟨ba0c0v3v_1c1,0,none⟩)],.func (.func 31) #[] #[.pointer (some ⟨ba0c0v3v_1c1,0,none⟩),.pointer (some ⟨ba0c0v3v_1c0,0,none⟩)],.func (.func 32) #[] #[.pointer (some ⟨ba0c0v3v_1c0,0,none⟩),.pointer (some ⟨ba0c0v3v_1c1,0,none⟩)]])::xblk ba2 130 ([.nilFunc])::fs) w31) (hs28 : SlZ (flat enc_api_Pick) 3 Z15 A25 c26 t24),Runs Try.prog (fx 44) [] (fill (mk 75 []) l35) w31 R:=by
   intro t17 t18 t19 t20 t24 t29 t30 he36 l35 Z15 A21 c22 A25 c26 w31 hz16 hS32 hs28
   subst he36
   try dsimp only at hp14
   have hS37:=hS32.pick18
   have hS38:=hS37.pick18
   have hS39:=hS38.pick18
   have hS40:=hS39.pick18
   have hS41:=hS40.pick18
   have hS42:=hS41.pick18
   have hS43:=hS42.pick18
   have hS44:=hS43.pick17
   have hS45:=hS44.pick17
   have hS46:=hS45.pick17
   have hS47:=hS46.pick17
   have hS48:=hS47.pick17
   have hS49:=hS48.pick17
   have hS50:=hS49.pick17
   have hS51:=hS50.pick17
   have hS52:=hS51.pick17
   have hS53:=hS52.pick17
   have hS54:=hS53.pick17
   have hS55:=hS54.pick18
   refine runs_end (fn:=Try.f44) (v:=.tuple #[]) Try.func44 (by kernel_rfl) ?_
   cases Option.some.inj hp14
   exact hR _ _ ⟨A21,c22,A25,c26,Z15,hz16,rfl,hS55,hs28⟩
  have L86 : ∀ (t59 : List ByteArray) (t63 : Bool) (t64 t65 : List (ByteArray × Int)) (t66 : List ByteArray) (t70 : List api_Pick) (t75 t76 : Int) (t77 : List (ByteArray × explore_visit)) (e81 : Sum (Bool × (List (ByteArray × Int)) × (List (ByteArray × Int)) × (List ByteArray) × (List api_Pick) × Int × Int) (Int × Bool × (List (ByteArray × Int)) × (List (ByteArray × Int)) × (List ByteArray) × (List api_Pick) × Int × Int)),explore_walk_1.l0 a0c0v3v_0 a0c0v3v_1c0vv_1m a0c0v3v_1c1v a0c0v4v a0c0v5vc1vm y19 t59 t63 t64 t65 t66 t70 t75 t76 t77 = some e81 → e81 = v12 → ∀ (l80 : List Value) (Z57 : Zm) (A60 : Option Addr) (c61 : Nat) (A67 : Option Addr) (c68 : Nat) (A71 : Option Addr) (c72 : Nat) (w78 : World) (hz58 : Zm.Le Z Z57) (hS79 : St w0 Z57 (xlp La0c0 14 (fill (mk 28 [(3,.pointer (some ⟨ba0c0v3,0,none⟩)),(4,.pointer (some ⟨ba0c0v4,0,none⟩)),(5,.pointer (some ⟨ba0c0v5,0,none⟩)),(6,.pointer (some ⟨ba0c0v6,0,none⟩)),(7,.pointer (some ⟨ba0c0v7,0,none⟩)),(8,.pointer (some ⟨ba0c0v8,0,none⟩))]) la0c0) #[13,14] p14_0 p14_1 Da0c0 [p14_2] 0::xblk ba0c0v3 32 ([.string a0c0v3v_0,.func (.func 28) #[] #[.pointer (some ⟨ba0c0v3v_1c0,0,none⟩),.pointer (some ⟨ba0c0v3v_1c1,0,none⟩)],.func (.func 31) #[] #[.pointer (some ⟨ba0c0v3v_1c1,0,none⟩),.pointer (some ⟨ba0c0v3v_1c0,0,none⟩)],.func (.func 32) #[] #[.pointer (some ⟨ba0c0v3v_1c0,0,none⟩),.pointer (some ⟨ba0c0v3v_1c1,0,none⟩)]])::xblk ba0c0v3v_1c0 33 ([.pointer (some ⟨ba0c0v3v_1c0v,0,none⟩)])::xblk ba0c0v3v_1c0v 49 ([.map (some ba0c0v3v_1c0vv_0),.map (some ba0c0v3v_1c0vv_1),.map (some ba0c0v3v_1c0vv_2),.bool t63])::xmap ba0c0v3v_1c0vv_0 (t64.map (kv Value.string (Value.int .i64)))::xmap ba0c0v3v_1c0vv_1 (a0c0v3v_1c0vv_1m.map (kv Value.string (Value.int .i64)))::xmap ba0c0v3v_1c0vv_2 (t65.map (kv Value.string (Value.int .i64)))::xblk ba0c0v3v_1c1 26 ([.slice Aa0c0v3v_1c1v_0 a0c0v3v_1c1v.Next.length ca0c0v3v_1c1v_0,.slice Aa0c0v3v_1c1v_1 a0c0v3v_1c1v.End.length ca0c0v3v_1c1v_1,.slice Aa0c0v3v_1c1v_2 a0c0v3v_1c1v.Value.length ca0c0v3v_1c1v_2,.int .i64 a0c0v3v_1c1v.Start])::xblk ba0c0v4 3 ([.int .i64 a0c0v4v])::xblk ba0c0v5 56 ([.func (.func 15) #[] #[.pointer (some ⟨ba0c0v5vc0,0,none⟩),.pointer (some ⟨ba0c0v5vc1,0,none⟩)]])::xblk ba0c0v5vc0 36 ([.slice A67 t66.length c68])::xrow A67 c68 9 1 (t66.flatMap encS)::xblk ba0c0v5vc1 41 ([.map (some ba0c0v5vc1v)])::xmap ba0c0v5vc1v (a0c0v5vc1vm.map (kv Value.string (Value.int .i64)))::xblk ba0c0v6 40 ([.slice A71 t70.length c72])::xblk ba0c0v7 53 ([.int .i64 t75])::xblk ba0c0v8 3 ([.int .i64 t76])::xblk ba1 32 ([.string y19,.func (.func 28) #[] #[.pointer (some ⟨ba0c0v3v_1c0,0,none⟩),.pointer (some ⟨ba0c0v3v_1c1,0,none⟩)],.func (.func 31) #[] #[.pointer (some ⟨ba0c0v3v_1c1,0,none⟩),.pointer (some ⟨ba0c0v3v_1c0,0,none⟩)],.func (.func 32) #[] #[.pointer (some ⟨ba0c0v3v_1c0,0,none⟩),.pointer (some ⟨ba0c0v3v_1c1,0,none⟩)]])::xblk ba2 130 ([.nilFunc])::xmap b1 (t77.map (kv Value.string (fun v => Value.agg (enc_explore_visit v).toArray)))::xrow A60 c61 9 1 (t59.flatMap encS)::fs) w78) (hs74 : SlZ (flat enc_api_Pick) 3 Z57 A71 c72 t70),Runs Try.prog (fx 44) td47 (fill (mk 75 [(0,.func (.yield La0c0) #[] #[]),(1,.pointer (some ⟨ba1,0,none⟩)),(2,.pointer (some ⟨ba2,0,none⟩)),(4,.map (some b1)),(5,.slice A60 t59.length c61)]) l80) w78 R:=by
   refine explore_walk_1.l0.partial_correctness a0c0v3v_0 a0c0v3v_1c0vv_1m a0c0v3v_1c1v a0c0v4v a0c0v5vc1vm y19 (fun t59 t63 t64 t65 t66 t70 t75 t76 t77 e81 => e81 = v12 → ∀ (l80 : List Value) (Z57 : Zm) (A60 : Option Addr) (c61 : Nat) (A67 : Option Addr) (c68 : Nat) (A71 : Option Addr) (c72 : Nat) (w78 : World) (hz58 : Zm.Le Z Z57) (hS79 : St w0 Z57 (xlp La0c0 14 (fill (mk 28 [(3,.pointer (some ⟨ba0c0v3,0,none⟩)),(4,.pointer (some ⟨ba0c0v4,0,none⟩)),(5,.pointer (some ⟨ba0c0v5,0,none⟩)),(6,.pointer (some ⟨ba0c0v6,0,none⟩)),(7,.pointer (some ⟨ba0c0v7,0,none⟩)),(8,.pointer (some ⟨ba0c0v8,0,none⟩))]) la0c0) #[13,14] p14_0 p14_1 Da0c0 [p14_2] 0::xblk ba0c0v3 32 ([.string a0c0v3v_0,.func (.func 28) #[] #[.pointer (some ⟨ba0c0v3v_1c0,0,none⟩),.pointer (some ⟨ba0c0v3v_1c1,0,none⟩)],.func (.func 31) #[] #[.pointer (some ⟨ba0c0v3v_1c1,0,none⟩),.pointer (some ⟨ba0c0v3v_1c0,0,none⟩)],.func (.func 32) #[] #[.pointer (some ⟨ba0c0v3v_1c0,0,none⟩),.pointer (some ⟨ba0c0v3v_1c1,0,none⟩)]])::xblk ba0c0v3v_1c0 33 ([.pointer (some ⟨ba0c0v3v_1c0v,0,none⟩)])::xblk ba0c0v3v_1c0v 49 ([.map (some ba0c0v3v_1c0vv_0),.map (some ba0c0v3v_1c0vv_1),.map (some ba0c0v3v_1c0vv_2),.bool t63])::xmap ba0c0v3v_1c0vv_0 (t64.map (kv Value.string (Value.int .i64)))::xmap ba0c0v3v_1c0vv_1 (a0c0v3v_1c0vv_1m.map (kv Value.string (Value.int .i64)))::xmap ba0c0v3v_1c0vv_2 (t65.map (kv Value.string (Value.int .i64)))::xblk ba0c0v3v_1c1 26 ([.slice Aa0c0v3v_1c1v_0 a0c0v3v_1c1v.Next.length ca0c0v3v_1c1v_0,.slice Aa0c0v3v_1c1v_1 a0c0v3v_1c1v.End.length ca0c0v3v_1c1v_1,.slice Aa0c0v3v_1c1v_2 a0c0v3v_1c1v.Value.length ca0c0v3v_1c1v_2,.int .i64 a0c0v3v_1c1v.Start])::xblk ba0c0v4 3 ([.int .i64 a0c0v4v])::xblk ba0c0v5 56 ([.func (.func 15) #[] #[.pointer (some ⟨ba0c0v5vc0,0,none⟩),.pointer (some ⟨ba0c0v5vc1,0,none⟩)]])::xblk ba0c0v5vc0 36 ([.slice A67 t66.length c68])::xrow A67 c68 9 1 (t66.flatMap encS)::xblk ba0c0v5vc1 41 ([.map (some ba0c0v5vc1v)])::xmap ba0c0v5vc1v (a0c0v5vc1vm.map (kv Value.string (Value.int .i64)))::xblk ba0c0v6 40 ([.slice A71 t70.length c72])::xblk ba0c0v7 53 ([.int .i64 t75])::xblk ba0c0v8 3 ([.int .i64 t76])::xblk ba1 32 ([.string y19,.func (.func 28) #[] #[.pointer (some ⟨ba0c0v3v_1c0,0,none⟩),.pointer (some ⟨ba0c0v3v_1c1,0,none⟩)],.func (.func 31) #[] #[.pointer (some ⟨ba0c0v3v_1c1,0,none⟩),.pointer (some ⟨ba0c0v3v_1c0,0,none⟩)],.func (.func 32) #[] #[.pointer (some ⟨ba0c0v3v_1c0,0,none⟩),.pointer (some ⟨ba0c0v3v_1c1,0,none⟩)]])::xblk ba2 130 ([.nilFunc])::xmap b1 (t77.map (kv Value.string (fun v => Value.agg (enc_explore_visit v).toArray)))::xrow A60 c61 9 1 (t59.flatMap encS)::fs) w78) (hs74 : SlZ (flat enc_api_Pick) 3 Z57 A71 c72 t70),Runs Try.prog (fx 44) td47 (fill (mk 75 [(0,.func (.yield La0c0) #[] #[]),(1,.pointer (some ⟨ba1,0,none⟩)),(2,.pointer (some ⟨ba2,0,none⟩)),(4,.map (some b1)),(5,.slice A60 t59.length c61)]) l80) w78 R) ?_
   intro rec85 ih84 t59 t63 t64 t65 t66 t70 t75 t76 t77 e81 hb83 he82 l80 Z57 A60 c61 A67 c68 A71 c72 w78 hz58 hS79 hs74
   have hq87 : ∀ x,Sum.inr x = e81 → x = (q0,q1,q2,q3,q4,q5,q6,q7):=fun x hx => hq33 x (hx.trans he82)
   refine sI 6 (.inRegion (opsOf (cd44 [1,1,0,0,0,0])) []::.code (cd44 [1,1,0,0,0,1])::.code (cd44 [1,1,0,0,1])::td46) 22 hb83 (fun hp90 => ?_) fun hp361 => ?_
   ·refine sR 7 (.inRegion (opsOf (cd44 [1,1,0,0,1,0,0])) [1,2,3]::.code (cd44 [1,1,0,0,1,0,1])::td48) ?_
    obtain ⟨g91,hp92⟩:=ite_some hp90
    obtain ⟨b93,p94,hA95,-⟩:=(hS79.row 20 rfl).at_ len_encS (by omega) g91.1 g91.2
    refine r_indexAddr (c:=(cd44 [1,1,0,0,1,0,0])) (i:=1) (d:=(some 24)) (ty:=0) (t:=36) (e:=9) (n:=t59.length) (cp:=c61) (sz:=1) (kk:=.i64) (x:=(.tmp 23)) (y:=(.const (.int .i64 0))) (b:=b93) (o':=p94) (j:=(0 : Int)) (by kernel_rfl) (by kernel_rfl) (slv (by kernel_rfl) hA95) (by kernel_rfl) (by kernel_rfl) (by kernel_rfl) g91.1 g91.2 ?_
    refine rL1 9 (.tmp 24) 0 ((hS79.row 20 rfl).at2 hA95 len_encS (by omega) g91.1 g91.2) ?_
    refine sR 5 (.inRegion (opsOf (cd44 [1,1,0,0,1,0,1,0])) [1,2]::.code (cd44 [1,1,0,0,1,0,1,1])::td48) ?_
    obtain ⟨g97,hp98⟩:=ite_some hp92
    have hS103:=hS79.pick20
    obtain ⟨A99,c100,hr101,hS104⟩:=hS103.cutrow len_encS (by omega) ((1 : Int).toNat) (t59.length) (by omega) (by omega)
    refine rV (.slice 36 (.tmp 26) (some (.const (.int .i64 1))) none none) (.slice A99 ((t59.take t59.length).drop ((1 : Int).toNat)).length c100) (fun o ho _ => x_cutSl_sn (e:=9) (sz:=1) (A:=A60) (n:=t59.length) (c:=c61) (k:=.i64) (by kernel_rfl) (by kernel_rfl) (by kernel_rfl) (by kernel_rfl) g97 hr101 ho) ?_
    refine sR 8 (.inRegion (opsOf p44_12) [3,4]::.code (cd44 [1,1,0,0,1,0,1,1,0,1])::.code p44_14::td48) ?_
    obtain ⟨⟨t106,t107,t108,t109,t110⟩,hr115,hp116⟩:=bind_some' hp98
    try dsimp only at hp116
    have hS122:=hS104.pick17
    have hS123:=hS122.pick17
    have hS124:=hS123.pick17
    have hS125:=hS124.pick17
    have hS126:=hS125.pick17
    have hS127:=hS126.pick17
    have hS128:=hS127.pick17
    have hS129:=hS128.pick17
    have hS130:=hS129.pick17
    have hS131:=hS130.pick17
    have hS132:=hS131.pick17
    have hS133:=hS132.pick17
    have hS134:=hS133.pick17
    have hS135:=hS134.pick17
    have hS136:=hS135.pick17
    have hS137:=hS136.pick17
    have hS138:=hS137.pick17
    have hS139:=hS138.pick20
    refine r_yield (c:=p44_12) (i:=3) (d:=(some 31)) (args:=#[.string (gt t59 (0 : Int)),.map (some b1)]) (hS139.lp 1 rfl) (by kernel_rfl) (by kernel_rfl) (by kernel_rfl) (by kernel_rfl) (explore_Way_r_1.ok (gt t59 (0 : Int)) t77 a0c0v3v_0 t64 a0c0v3v_1c0vv_1m t65 t63 a0c0v3v_1c1v a0c0v4v t66 a0c0v5vc1vm t70 t75 t76 b1 La0c0 Da0c0 la0c0 ba0c0v3 ba0c0v3v_1c0 ba0c0v3v_1c0v ba0c0v3v_1c0vv_0 ba0c0v3v_1c0vv_1 ba0c0v3v_1c0vv_2 ba0c0v3v_1c1 Aa0c0v3v_1c1v_0 ca0c0v3v_1c1v_0 Aa0c0v3v_1c1v_1 ca0c0v3v_1c1v_1 Aa0c0v3v_1c1v_2 ca0c0v3v_1c1v_2 ba0c0v4 ba0c0v5 ba0c0v5vc0 A67 c68 ba0c0v5vc1 ba0c0v5vc1v ba0c0v6 A71 c72 ba0c0v7 ba0c0v8 hS139 (SlZ.mono (mono_repL (mono_flat _)) ha0c0v3v_1c1v_0 hz58) (ha0c0v3v_1c1v_1.up hz58) (ha0c0v3v_1c1v_2.up hz58) hs74 hr115) rfl (by kernel_rfl) ?_
    rintro _ w140 ⟨Q111,Q112,Q113,Q114,Z142,hz143,rfl,hS141,hs144⟩
    refine ⟨_,rfl,?_⟩
    refine r_split (decide (t106 = 0)) (fun h145 => ?_) (fun h146 => ?_)
    ·have hp147:=ite_t hp116 h145
     obtain rfl:=of_decide_eq_true h145
     refine sR 6 (iR p44_15 0 4::.code p44_16::td48) ?_
     refine rLa 32 (.tmp 1) (hS141.blk 19 rfl) ?_
     refine sR 1 (.inRegion (opsOf p44_15) [2,3]::.code p44_16::td48) ?_
     obtain ⟨⟨t148,t149,t150,t151⟩,hr154,hp155⟩:=bind_some' hp147
     try dsimp only at hp155
     have hS160:=hS141.pick9
     have hS161:=hS160.pick9
     have hS162:=hS161.pick9
     have hS163:=hS162.pick9
     have hS164:=hS163.pick9
     have hS165:=hS164.pick9
     refine rC (explore_moves.ok hr154 hS165 (SlZ.mono (mono_repL (mono_flat _)) ha0c0v3v_1c1v_0 (Zm.Le.trans hz58 hz143)) (ha0c0v3v_1c1v_1.up (Zm.Le.trans hz58 hz143)) (ha0c0v3v_1c1v_2.up (Zm.Le.trans hz58 hz143))) ?_
     rintro _ w166 ⟨Q152,Q153,rfl,hS167⟩
     refine ⟨_,rfl,?_⟩
     refine sR 5 (.inRegion (opsOf (cd44 [1,1,0,0,1,0,1,1,1,1,0,0])) [0,1]::.code (cd44 [1,1,0,0,1,0,1,1,1,1,0,1])::.code (cd44 [1,1,0,0,1,0,1,1,1,1,1])::td48) ?_
     refine rL1 130 (.tmp 2) 0 (hS167.blk 21 rfl) ?_
     refine sR 12 td51 ?_
     obtain ⟨v168,hv169,hp170⟩:=bind_some' hp155
     have J178 : ∀ (t171 : List ByteArray) (t175 : List (ByteArray × explore_visit)) (he180 : (t171,t175) = v168) (l179 : List Value) (A172 : Option Addr) (c173 : Nat) (w176 : World) (hS177 : St w0 Z142 (xlp La0c0 14 (fill (mk 28 [(3,.pointer (some ⟨ba0c0v3,0,none⟩)),(4,.pointer (some ⟨ba0c0v4,0,none⟩)),(5,.pointer (some ⟨ba0c0v5,0,none⟩)),(6,.pointer (some ⟨ba0c0v6,0,none⟩)),(7,.pointer (some ⟨ba0c0v7,0,none⟩)),(8,.pointer (some ⟨ba0c0v8,0,none⟩))]) la0c0) #[13,14] p14_0 p14_1 Da0c0 [p14_2] 0::xblk ba0c0v3 32 ([.string a0c0v3v_0,.func (.func 28) #[] #[.pointer (some ⟨ba0c0v3v_1c0,0,none⟩),.pointer (some ⟨ba0c0v3v_1c1,0,none⟩)],.func (.func 31) #[] #[.pointer (some ⟨ba0c0v3v_1c1,0,none⟩),.pointer (some ⟨ba0c0v3v_1c0,0,none⟩)],.func (.func 32) #[] #[.pointer (some ⟨ba0c0v3v_1c0,0,none⟩),.pointer (some ⟨ba0c0v3v_1c1,0,none⟩)]])::xblk ba0c0v3v_1c0 33 ([.pointer (some ⟨ba0c0v3v_1c0v,0,none⟩)])::xblk ba0c0v3v_1c0v 49 ([.map (some ba0c0v3v_1c0vv_0),.map (some ba0c0v3v_1c0vv_1),.map (some ba0c0v3v_1c0vv_2),.bool t149])::xmap ba0c0v3v_1c0vv_0 (t150.map (kv Value.string (Value.int .i64)))::xmap ba0c0v3v_1c0vv_1 (a0c0v3v_1c0vv_1m.map (kv Value.string (Value.int .i64)))::xmap ba0c0v3v_1c0vv_2 (t151.map (kv Value.string (Value.int .i64)))::xblk ba0c0v3v_1c1 26 ([.slice Aa0c0v3v_1c1v_0 a0c0v3v_1c1v.Next.length ca0c0v3v_1c1v_0,.slice Aa0c0v3v_1c1v_1 a0c0v3v_1c1v.End.length ca0c0v3v_1c1v_1,.slice Aa0c0v3v_1c1v_2 a0c0v3v_1c1v.Value.length ca0c0v3v_1c1v_2,.int .i64 a0c0v3v_1c1v.Start])::xblk ba0c0v4 3 ([.int .i64 a0c0v4v])::xblk ba0c0v5 56 ([.func (.func 15) #[] #[.pointer (some ⟨ba0c0v5vc0,0,none⟩),.pointer (some ⟨ba0c0v5vc1,0,none⟩)]])::xblk ba0c0v5vc0 36 ([.slice Q111 t107.length Q112])::xrow Q111 Q112 9 1 (t107.flatMap encS)::xblk ba0c0v5vc1 41 ([.map (some ba0c0v5vc1v)])::xmap ba0c0v5vc1v (a0c0v5vc1vm.map (kv Value.string (Value.int .i64)))::xblk ba0c0v6 40 ([.slice Q113 t108.length Q114])::xblk ba0c0v7 53 ([.int .i64 t109])::xblk ba0c0v8 3 ([.int .i64 t110])::xblk ba1 32 ([.string y19,.func (.func 28) #[] #[.pointer (some ⟨ba0c0v3v_1c0,0,none⟩),.pointer (some ⟨ba0c0v3v_1c1,0,none⟩)],.func (.func 31) #[] #[.pointer (some ⟨ba0c0v3v_1c1,0,none⟩),.pointer (some ⟨ba0c0v3v_1c0,0,none⟩)],.func (.func 32) #[] #[.pointer (some ⟨ba0c0v3v_1c0,0,none⟩),.pointer (some ⟨ba0c0v3v_1c1,0,none⟩)]])::xblk ba2 130 ([.nilFunc])::xmap b1 (t175.map (kv Value.string (fun v => Value.agg (enc_explore_visit v).toArray)))::xrow A172 c173 9 1 (t171.flatMap encS)::fs) w176),Runs Try.prog (fx 44) td48 (fill (mk 75 [(0,.func (.yield La0c0) #[] #[]),(1,.pointer (some ⟨ba1,0,none⟩)),(2,.pointer (some ⟨ba2,0,none⟩)),(4,.map (some b1)),(5,.slice A172 t171.length c173)]) l179) w176 R:=by
      intro t171 t175 he180 l179 A172 c173 w176 hS177
      subst he180
      try dsimp only at hp170
      refine sR 1 td46 ?_
      refine sR 1 td47 ?_
      exact rF _ (ih84 t171 t149 t150 t151 t107 t108 t109 t110 t175 _ hp170 he82 _ Z142 A172 c173 Q111 Q112 Q113 Q114 _ (Zm.Le.trans hz58 hz143) hS177 hs144)
     have L195 : ∀ (t181 : List ByteArray) (t185 : Int) (t186 : List (ByteArray × explore_visit)) (e190 : ((List ByteArray) × (List (ByteArray × explore_visit)))),explore_walk_1.l1 t59 t148 t181 t185 t186 = some e190 → e190 = v168 → ∀ (l189 : List Value) (A182 : Option Addr) (c183 : Nat) (w187 : World) (hS188 : St w0 Z142 (xlp La0c0 14 (fill (mk 28 [(3,.pointer (some ⟨ba0c0v3,0,none⟩)),(4,.pointer (some ⟨ba0c0v4,0,none⟩)),(5,.pointer (some ⟨ba0c0v5,0,none⟩)),(6,.pointer (some ⟨ba0c0v6,0,none⟩)),(7,.pointer (some ⟨ba0c0v7,0,none⟩)),(8,.pointer (some ⟨ba0c0v8,0,none⟩))]) la0c0) #[13,14] p14_0 p14_1 Da0c0 [p14_2] 0::xblk ba0c0v3 32 ([.string a0c0v3v_0,.func (.func 28) #[] #[.pointer (some ⟨ba0c0v3v_1c0,0,none⟩),.pointer (some ⟨ba0c0v3v_1c1,0,none⟩)],.func (.func 31) #[] #[.pointer (some ⟨ba0c0v3v_1c1,0,none⟩),.pointer (some ⟨ba0c0v3v_1c0,0,none⟩)],.func (.func 32) #[] #[.pointer (some ⟨ba0c0v3v_1c0,0,none⟩),.pointer (some ⟨ba0c0v3v_1c1,0,none⟩)]])::xblk ba0c0v3v_1c0 33 ([.pointer (some ⟨ba0c0v3v_1c0v,0,none⟩)])::xblk ba0c0v3v_1c0v 49 ([.map (some ba0c0v3v_1c0vv_0),.map (some ba0c0v3v_1c0vv_1),.map (some ba0c0v3v_1c0vv_2),.bool t149])::xmap ba0c0v3v_1c0vv_0 (t150.map (kv Value.string (Value.int .i64)))::xmap ba0c0v3v_1c0vv_1 (a0c0v3v_1c0vv_1m.map (kv Value.string (Value.int .i64)))::xmap ba0c0v3v_1c0vv_2 (t151.map (kv Value.string (Value.int .i64)))::xblk ba0c0v3v_1c1 26 ([.slice Aa0c0v3v_1c1v_0 a0c0v3v_1c1v.Next.length ca0c0v3v_1c1v_0,.slice Aa0c0v3v_1c1v_1 a0c0v3v_1c1v.End.length ca0c0v3v_1c1v_1,.slice Aa0c0v3v_1c1v_2 a0c0v3v_1c1v.Value.length ca0c0v3v_1c1v_2,.int .i64 a0c0v3v_1c1v.Start])::xblk ba0c0v4 3 ([.int .i64 a0c0v4v])::xblk ba0c0v5 56 ([.func (.func 15) #[] #[.pointer (some ⟨ba0c0v5vc0,0,none⟩),.pointer (some ⟨ba0c0v5vc1,0,none⟩)]])::xblk ba0c0v5vc0 36 ([.slice Q111 t107.length Q112])::xrow Q111 Q112 9 1 (t107.flatMap encS)::xblk ba0c0v5vc1 41 ([.map (some ba0c0v5vc1v)])::xmap ba0c0v5vc1v (a0c0v5vc1vm.map (kv Value.string (Value.int .i64)))::xblk ba0c0v6 40 ([.slice Q113 t108.length Q114])::xblk ba0c0v7 53 ([.int .i64 t109])::xblk ba0c0v8 3 ([.int .i64 t110])::xblk ba1 32 ([.string y19,.func (.func 28) #[] #[.pointer (some ⟨ba0c0v3v_1c0,0,none⟩),.pointer (some ⟨ba0c0v3v_1c1,0,none⟩)],.func (.func 31) #[] #[.pointer (some ⟨ba0c0v3v_1c1,0,none⟩),.pointer (some ⟨ba0c0v3v_1c0,0,none⟩)],.func (.func 32) #[] #[.pointer (some ⟨ba0c0v3v_1c0,0,none⟩),.pointer (some ⟨ba0c0v3v_1c1,0,none⟩)]])::xblk ba2 130 ([.nilFunc])::xmap b1 (t186.map (kv Value.string (fun v => Value.agg (enc_explore_visit v).toArray)))::xrow A182 c183 9 1 (t181.flatMap encS)::xrow Q152 Q153 122 4 (t148.flatMap enc_explore_edge)::fs) w187),Runs Try.prog (fx 44) td51 (fill (mk 75 [(0,.func (.yield La0c0) #[] #[]),(1,.pointer (some ⟨ba1,0,none⟩)),(2,.pointer (some ⟨ba2,0,none⟩)),(4,.map (some b1)),(5,.slice A182 t181.length c183),(6,.string (gt t59 (0 : Int))),(42,.slice Q152 t148.length Q153),(43,.int .i64 (t148.length : Int)),(44,.int .i64 t185)]) l189) w187 R:=by
      refine explore_walk_1.l1.partial_correctness t59 t148 (fun t181 t185 t186 e190 => e190 = v168 → ∀ (l189 : List Value) (A182 : Option Addr) (c183 : Nat) (w187 : World) (hS188 : St w0 Z142 (xlp La0c0 14 (fill (mk 28 [(3,.pointer (some ⟨ba0c0v3,0,none⟩)),(4,.pointer (some ⟨ba0c0v4,0,none⟩)),(5,.pointer (some ⟨ba0c0v5,0,none⟩)),(6,.pointer (some ⟨ba0c0v6,0,none⟩)),(7,.pointer (some ⟨ba0c0v7,0,none⟩)),(8,.pointer (some ⟨ba0c0v8,0,none⟩))]) la0c0) #[13,14] p14_0 p14_1 Da0c0 [p14_2] 0::xblk ba0c0v3 32 ([.string a0c0v3v_0,.func (.func 28) #[] #[.pointer (some ⟨ba0c0v3v_1c0,0,none⟩),.pointer (some ⟨ba0c0v3v_1c1,0,none⟩)],.func (.func 31) #[] #[.pointer (some ⟨ba0c0v3v_1c1,0,none⟩),.pointer (some ⟨ba0c0v3v_1c0,0,none⟩)],.func (.func 32) #[] #[.pointer (some ⟨ba0c0v3v_1c0,0,none⟩),.pointer (some ⟨ba0c0v3v_1c1,0,none⟩)]])::xblk ba0c0v3v_1c0 33 ([.pointer (some ⟨ba0c0v3v_1c0v,0,none⟩)])::xblk ba0c0v3v_1c0v 49 ([.map (some ba0c0v3v_1c0vv_0),.map (some ba0c0v3v_1c0vv_1),.map (some ba0c0v3v_1c0vv_2),.bool t149])::xmap ba0c0v3v_1c0vv_0 (t150.map (kv Value.string (Value.int .i64)))::xmap ba0c0v3v_1c0vv_1 (a0c0v3v_1c0vv_1m.map (kv Value.string (Value.int .i64)))::xmap ba0c0v3v_1c0vv_2 (t151.map (kv Value.string (Value.int .i64)))::xblk ba0c0v3v_1c1 26 ([.slice Aa0c0v3v_1c1v_0 a0c0v3v_1c1v.Next.length ca0c0v3v_1c1v_0,.slice Aa0c0v3v_1c1v_1 a0c0v3v_1c1v.End.length ca0c0v3v_1c1v_1,.slice Aa0c0v3v_1c1v_2 a0c0v3v_1c1v.Value.length ca0c0v3v_1c1v_2,.int .i64 a0c0v3v_1c1v.Start])::xblk ba0c0v4 3 ([.int .i64 a0c0v4v])::xblk ba0c0v5 56 ([.func (.func 15) #[] #[.pointer (some ⟨ba0c0v5vc0,0,none⟩),.pointer (some ⟨ba0c0v5vc1,0,none⟩)]])::xblk ba0c0v5vc0 36 ([.slice Q111 t107.length Q112])::xrow Q111 Q112 9 1 (t107.flatMap encS)::xblk ba0c0v5vc1 41 ([.map (some ba0c0v5vc1v)])::xmap ba0c0v5vc1v (a0c0v5vc1vm.map (kv Value.string (Value.int .i64)))::xblk ba0c0v6 40 ([.slice Q113 t108.length Q114])::xblk ba0c0v7 53 ([.int .i64 t109])::xblk ba0c0v8 3 ([.int .i64 t110])::xblk ba1 32 ([.string y19,.func (.func 28) #[] #[.pointer (some ⟨ba0c0v3v_1c0,0,none⟩),.pointer (some ⟨ba0c0v3v_1c1,0,none⟩)],.func (.func 31) #[] #[.pointer (some ⟨ba0c0v3v_1c1,0,none⟩),.pointer (some ⟨ba0c0v3v_1c0,0,none⟩)],.func (.func 32) #[] #[.pointer (some ⟨ba0c0v3v_1c0,0,none⟩),.pointer (some ⟨ba0c0v3v_1c1,0,none⟩)]])::xblk ba2 130 ([.nilFunc])::xmap b1 (t186.map (kv Value.string (fun v => Value.agg (enc_explore_visit v).toArray)))::xrow A182 c183 9 1 (t181.flatMap encS)::xrow Q152 Q153 122 4 (t148.flatMap enc_explore_edge)::fs) w187),Runs Try.prog (fx 44) td51 (fill (mk 75 [(0,.func (.yield La0c0) #[] #[]),(1,.pointer (some ⟨ba1,0,none⟩)),(2,.pointer (some ⟨ba2,0,none⟩)),(4,.map (some b1)),(5,.slice A182 t181.length c183),(6,.string (gt t59 (0 : Int))),(42,.slice Q152 t148.length Q153),(43,.int .i64 (t148.length : Int)),(44,.int .i64 t185)]) l189) w187 R) ?_
      intro rec194 ih193 t181 t185 t186 e190 hb192 he191 l189 A182 c183 w187 hS188
      refine sI 3 (.inRegion (opsOf (cd44 [1,1,0,0,1,0,1,1,1,1,1,1,0,0,0])) []::.code (cd44 [1,1,0,0,1,0,1,1,1,1,1,1,0,0,1])::td50) 45 hb192 (fun hp198 => ?_) fun hp331 => ?_
      ·refine sR 8 (iR p44_23 0 4::.code (cd44 [1,1,0,0,1,0,1,1,1,1,1,1,0,0,1,1,0,0,1])::td53) ?_
       obtain ⟨g199,hp200⟩:=ite_some hp198
       obtain ⟨b201,p202,hA203,-⟩:=(hS188.row 21 rfl).at_ len_explore_edge (by omega) g199.1 g199.2
       refine r_indexAddr (c:=p44_23) (i:=0) (d:=(some 46)) (ty:=0) (t:=120) (e:=122) (n:=t148.length) (cp:=Q153) (sz:=4) (kk:=.i64) (x:=(.tmp 42)) (y:=(.tmp 44)) (b:=b201) (o':=p202) (j:=t185) (by kernel_rfl) (by kernel_rfl) (slv (by kernel_rfl) hA203) (by kernel_rfl) (by kernel_rfl) (by kernel_rfl) g199.1 g199.2 ?_
       refine rLa 122 (.tmp 46) ((hS188.row 21 rfl).at2 hA203 len_explore_edge (by omega) g199.1 g199.2) ?_
       refine rA 122 (.agg (enc_explore_edge (⟨⟨0,0,0⟩,(⟨#[]⟩ : ByteArray)⟩ : explore_edge)).toArray) (enc_explore_edge (⟨⟨0,0,0⟩,(⟨#[]⟩ : ByteArray)⟩ : explore_edge)) hS188 ?_
       intro b205 w206 hS207
       refine rSA 122 (.tmp 9) (.tmp 47) (enc_explore_edge (gt t148 t185)) hS207 (one_explore_edge _) ?_
       intro w209 hS210
       refine sR 5 (iR p44_26 2 8::.code p44_27::td53) ?_
       refine rL1 9 (.tmp 50) 3 (hS210.blk 0 rfl) ?_
       refine rV (.lookup 100 (.tmp 49) (.tmp 51) true) (.tuple #[.agg (enc_explore_visit ((mget t186 ((gt t148 t185).to)).getD (⟨0,(⟨#[]⟩ : ByteArray),⟨0,0,0⟩⟩ : explore_visit))).toArray,.bool ((mget t186 ((gt t148 t185).to)).isSome)]) (fun o ho _ => x_lookup2 (eK:=Value.string) (eV:=(fun v => Value.agg (enc_explore_visit v).toArray)) (dk:=.string) (b:=b1) (t:=100) (kt:=9) (et:=102) (m:=t186) (kk:=((gt t148 t185).to)) (z:=(⟨0,(⟨#[]⟩ : ByteArray),⟨0,0,0⟩⟩ : explore_visit)) (hS210.at 20 rfl) key_str (by kernel_rfl) (by kernel_rfl) (by kernel_rfl) (by kernel_rfl) (by kernel_rfl) ho) ?_
       obtain ⟨v211,hv212,hp213⟩:=bind_some' hp200
       have J217 : ∀ (t214 : Bool) (he219 : t214 = v211) (l218 : List Value) (w215 : World) (hS216 : St w0 Z142 (xlp La0c0 14 (fill (mk 28 [(3,.pointer (some ⟨ba0c0v3,0,none⟩)),(4,.pointer (some ⟨ba0c0v4,0,none⟩)),(5,.pointer (some ⟨ba0c0v5,0,none⟩)),(6,.pointer (some ⟨ba0c0v6,0,none⟩)),(7,.pointer (some ⟨ba0c0v7,0,none⟩)),(8,.pointer (some ⟨ba0c0v8,0,none⟩))]) la0c0) #[13,14] p14_0 p14_1 Da0c0 [p14_2] 0::xblk ba0c0v3 32 ([.string a0c0v3v_0,.func (.func 28) #[] #[.pointer (some ⟨ba0c0v3v_1c0,0,none⟩),.pointer (some ⟨ba0c0v3v_1c1,0,none⟩)],.func (.func 31) #[] #[.pointer (some ⟨ba0c0v3v_1c1,0,none⟩),.pointer (some ⟨ba0c0v3v_1c0,0,none⟩)],.func (.func 32) #[] #[.pointer (some ⟨ba0c0v3v_1c0,0,none⟩),.pointer (some ⟨ba0c0v3v_1c1,0,none⟩)]])::xblk ba0c0v3v_1c0 33 ([.pointer (some ⟨ba0c0v3v_1c0v,0,none⟩)])::xblk ba0c0v3v_1c0v 49 ([.map (some ba0c0v3v_1c0vv_0),.map (some ba0c0v3v_1c0vv_1),.map (some ba0c0v3v_1c0vv_2),.bool t149])::xmap ba0c0v3v_1c0vv_0 (t150.map (kv Value.string (Value.int .i64)))::xmap ba0c0v3v_1c0vv_1 (a0c0v3v_1c0vv_1m.map (kv Value.string (Value.int .i64)))::xmap ba0c0v3v_1c0vv_2 (t151.map (kv Value.string (Value.int .i64)))::xblk ba0c0v3v_1c1 26 ([.slice Aa0c0v3v_1c1v_0 a0c0v3v_1c1v.Next.length ca0c0v3v_1c1v_0,.slice Aa0c0v3v_1c1v_1 a0c0v3v_1c1v.End.length ca0c0v3v_1c1v_1,.slice Aa0c0v3v_1c1v_2 a0c0v3v_1c1v.Value.length ca0c0v3v_1c1v_2,.int .i64 a0c0v3v_1c1v.Start])::xblk ba0c0v4 3 ([.int .i64 a0c0v4v])::xblk ba0c0v5 56 ([.func (.func 15) #[] #[.pointer (some ⟨ba0c0v5vc0,0,none⟩),.pointer (some ⟨ba0c0v5vc1,0,none⟩)]])::xblk ba0c0v5vc0 36 ([.slice Q111 t107.length Q112])::xrow Q111 Q112 9 1 (t107.flatMap encS)::xblk ba0c0v5vc1 41 ([.map (some ba0c0v5vc1v)])::xmap ba0c0v5vc1v (a0c0v5vc1vm.map (kv Value.string (Value.int .i64)))::xblk ba0c0v6 40 ([.slice Q113 t108.length Q114])::xblk ba0c0v7 53 ([.int .i64 t109])::xblk ba0c0v8 3 ([.int .i64 t110])::xblk ba1 32 ([.string y19,.func (.func 28) #[] #[.pointer (some ⟨ba0c0v3v_1c0,0,none⟩),.pointer (some ⟨ba0c0v3v_1c1,0,none⟩)],.func (.func 31) #[] #[.pointer (some ⟨ba0c0v3v_1c1,0,none⟩),.pointer (some ⟨ba0c0v3v_1c0,0,none⟩)],.func (.func 32) #[] #[.pointer (some ⟨ba0c0v3v_1c0,0,none⟩),.pointer (some ⟨ba0c0v3v_1c1,0,none⟩)]])::xblk ba2 130 ([.nilFunc])::xmap b1 (t186.map (kv Value.string (fun v => Value.agg (enc_explore_visit v).toArray)))::xrow A182 c183 9 1 (t181.flatMap encS)::xblk b205 122 (enc_explore_edge (gt t148 t185))::xrow Q152 Q153 122 4 (t148.flatMap enc_explore_edge)::fs) w215),Runs Try.prog (fx 44) td55 (fill (mk 75 [(0,.func (.yield La0c0) #[] #[]),(1,.pointer (some ⟨ba1,0,none⟩)),(2,.pointer (some ⟨ba2,0,none⟩)),(4,.map (some b1)),(5,.slice A182 t181.length c183),(6,.string (gt t59 (0 : Int))),(9,.pointer (some ⟨b205,0,none⟩)),(11,.bool t214),(42,.slice Q152 t148.length Q153),(43,.int .i64 (t148.length : Int)),(44,.int .i64 t185)]) l218) w215 R:=by
        intro t214 he219 l218 w215 hS216
        subst he219
        try dsimp only at hp213
        refine sI 3 (.inRegion (opsOf p44_28) []::td54) 56 hp213 (fun hp222 => ?_) fun hp264 => ?_
        ·refine sR 6 (iR p44_30 2 11::td56) ?_
         refine rL1 9 (.tmp 58) 3 (hS216.blk 21 rfl) ?_
         refine sR 2 (iR p44_30 5 8::td56) ?_
         refine rV (.lookup 100 (.tmp 60) (.tmp 61) false) (.agg (enc_explore_visit ((mget t186 (gt t59 (0 : Int))).getD (⟨0,(⟨#[]⟩ : ByteArray),⟨0,0,0⟩⟩ : explore_visit))).toArray) (fun o ho _ => x_lookup1 (eK:=Value.string) (eV:=(fun v => Value.agg (enc_explore_visit v).toArray)) (dk:=.string) (b:=b1) (t:=100) (kt:=9) (et:=102) (m:=t186) (kk:=(gt t59 (0 : Int))) (z:=(⟨0,(⟨#[]⟩ : ByteArray),⟨0,0,0⟩⟩ : explore_visit)) (hS216.at 19 rfl) key_str (by kernel_rfl) (by kernel_rfl) (by kernel_rfl) (by kernel_rfl) (by kernel_rfl) ho) ?_
         refine sR 4 (.inRegion (opsOf p44_30) [10,11,12]::td56) ?_
         refine rLa 88 (.tmp 66) (sub_explore_edge_by (hS216.blk 21 rfl)) ?_
         refine sR 1 (.inRegion (opsOf p44_30) [12]::td56) ?_
         have hS223:=hS216.pick19
         refine r_mapUpdate (c:=p44_30) (i:=12) (d:=none) (ty:=0) (eK:=Value.string) (eV:=(fun v => Value.agg (enc_explore_visit v).toArray)) (dk:=.string) (b:=b1) (t:=100) (kt:=9) (et:=102) (x:=(.tmp 57)) (y:=(.tmp 59)) (z:=(.tmp 68)) (m:=t186) (kk:=((gt t148 t185).to)) (v:=(⟨(IntKind.i64.wrap ((((mget t186 (gt t59 (0 : Int))).getD (⟨0,(⟨#[]⟩ : ByteArray),⟨0,0,0⟩⟩ : explore_visit)).depth) + 1)),(gt t59 (0 : Int)),(gt t148 t185).by_⟩ : explore_visit)) hS223 (by kernel_rfl) (by kernel_rfl) key_str (by kernel_rfl) (by kernel_rfl) (by kernel_rfl) (by kernel_rfl) (by kernel_rfl) ?_
         intro w224 hS225
         refine sR 4 (iR p44_31 2 4::td53) ?_
         refine rL1 9 (.tmp 70) 3 (hS225.blk 21 rfl) ?_
         refine r_lit (c:=p44_31) (i:=3) (d:=(some 72)) (ty:=36) (t:=36) (e:=9) (sz:=1) (n:=1) (parts:=#[(0,(.tmp 71))]) (vs:=[(0,.string ((gt t148 t185).to))]) (z:=zeroOf Try.prog 9) (cs':=([(gt t148 t185).to] : List ByteArray).flatMap encS) hS225 (by kernel_rfl) (by kernel_rfl) (by kernel_rfl) (by kernel_rfl) (by kernel_rfl) (by decide) (by decide) (by kernel_rfl) rfl (Parts.cons (c:=[.string ((gt t148 t185).to)]) (by kernel_rfl) rfl Parts.nil) rfl ?_
         intro b227 w228 hS229
         have hS230:=hS229.pick21
         obtain ⟨g231,hp232⟩:=ite_some hp222
         refine r_append (c:=p44_31) (i:=4) (d:=(some 73)) (ty:=36) (enc:=encS) (e:=9) (u:=9) (t:=36) (t2:=36) (sz:=1) (cp:=c183) (A:=A182) (bytes:=16) (xs:=t181) (ys:=([(gt t148 t185).to] : List ByteArray)) (s:=(.tmp 69)) (x:=(.tmp 72)) (xv:=.slice (some ⟨b227,0,none⟩) ([(gt t148 t185).to] : List ByteArray).length 1) (info:=infoOf Try.prog 9) (z:=zeroOf Try.prog 9) (ycs:=([(gt t148 t185).to] : List ByteArray).flatMap encS) hS230 (by kernel_rfl) (by kernel_rfl) (by kernel_rfl) (by kernel_rfl) (by kernel_rfl) (.inl (by kernel_rfl)) (by kernel_rfl) (by kernel_rfl) (by kernel_rfl) (by kernel_rfl) (by kernel_rfl) (by omega) len_encS one_encS (src_row (hS230.row 1 rfl) (by omega) len_encS) rfl g231 (by omega) ?_
         intro A233 c234 w235 hS236
         refine sR 7 td50 ?_
         have hS238:=hS236.pick1
         have hS239:=hS238.drop
         have hS240:=hS239.pick21
         have hS241:=hS240.drop
         have hS242:=hS241.pick21
         have hS243:=hS242.pick1
         have hS244:=hS243.pick2
         have hS245:=hS244.pick21
         have hS246:=hS245.pick21
         have hS247:=hS246.pick21
         have hS248:=hS247.pick21
         have hS249:=hS248.pick21
         have hS250:=hS249.pick21
         have hS251:=hS250.pick21
         have hS252:=hS251.pick21
         have hS253:=hS252.pick21
         have hS254:=hS253.pick21
         have hS255:=hS254.pick21
         have hS256:=hS255.pick21
         have hS257:=hS256.pick21
         have hS258:=hS257.pick21
         have hS259:=hS258.pick21
         have hS260:=hS259.pick21
         have hS261:=hS260.pick21
         have hS262:=hS261.pick21
         have hS263:=hS262.pick21
         refine sR 1 td51 ?_
         exact rF _ (ih193 (t181 ++ ([(gt t148 t185).to] : List ByteArray)) (IntKind.i64.wrap (t185 + 1)) (mput t186 ((gt t148 t185).to) (⟨(IntKind.i64.wrap ((((mget t186 (gt t59 (0 : Int))).getD (⟨0,(⟨#[]⟩ : ByteArray),⟨0,0,0⟩⟩ : explore_visit)).depth) + 1)),(gt t59 (0 : Int)),(gt t148 t185).by_⟩ : explore_visit)) _ hp232 he191 _ A233 c234 _ hS263)
        refine sR 8 td50 ?_
        have hS265:=hS216.pick21
        have hS266:=hS265.drop
        refine sR 1 td51 ?_
        exact rF _ (ih193 (id t181) (IntKind.i64.wrap (t185 + 1)) (id t186) _ hp264 he191 _ A182 c183 _ hS266)
       refine sI 3 (.inRegion (opsOf p44_26) [7,8,9]::.code p44_27::td53) 54 hv212 (fun hp269 => ?_) fun hp300 => ?_
       ·refine rA 102 (.agg (enc_explore_visit (⟨0,(⟨#[]⟩ : ByteArray),⟨0,0,0⟩⟩ : explore_visit)).toArray) (enc_explore_visit (⟨0,(⟨#[]⟩ : ByteArray),⟨0,0,0⟩⟩ : explore_visit)) hS210 ?_
        intro b270 w271 hS272
        refine rSA 102 (.tmp 10) (.tmp 53) (enc_explore_visit ((mget t186 ((gt t148 t185).to)).getD (⟨0,(⟨#[]⟩ : ByteArray),⟨0,0,0⟩⟩ : explore_visit))) hS272 (one_explore_visit _) ?_
        intro w274 hS275
        refine sR 3 td55 ?_
        have hS276:=hS275.drop
        have hS277:=hS276.pick22
        have hS278:=hS277.pick1
        have hS279:=hS278.pick22
        have hS280:=hS279.pick22
        have hS281:=hS280.pick22
        have hS282:=hS281.pick22
        have hS283:=hS282.pick22
        have hS284:=hS283.pick22
        have hS285:=hS284.pick22
        have hS286:=hS285.pick22
        have hS287:=hS286.pick22
        have hS288:=hS287.pick22
        have hS289:=hS288.pick22
        have hS290:=hS289.pick22
        have hS291:=hS290.pick22
        have hS292:=hS291.pick22
        have hS293:=hS292.pick22
        have hS294:=hS293.pick22
        have hS295:=hS294.pick22
        have hS296:=hS295.pick22
        have hS297:=hS296.pick22
        have hS298:=hS297.pick22
        have hS299:=hS298.pick22
        exact rF _ (J217 true (Option.some.inj hp269) _ _ hS299)
       refine rA 102 (.agg (enc_explore_visit (⟨0,(⟨#[]⟩ : ByteArray),⟨0,0,0⟩⟩ : explore_visit)).toArray) (enc_explore_visit (⟨0,(⟨#[]⟩ : ByteArray),⟨0,0,0⟩⟩ : explore_visit)) hS210 ?_
       intro b301 w302 hS303
       refine rSA 102 (.tmp 10) (.tmp 53) (enc_explore_visit ((mget t186 ((gt t148 t185).to)).getD (⟨0,(⟨#[]⟩ : ByteArray),⟨0,0,0⟩⟩ : explore_visit))) hS303 (one_explore_visit _) ?_
       intro w305 hS306
       refine sR 3 td55 ?_
       have hS307:=hS306.drop
       have hS308:=hS307.pick22
       have hS309:=hS308.pick1
       have hS310:=hS309.pick22
       have hS311:=hS310.pick22
       have hS312:=hS311.pick22
       have hS313:=hS312.pick22
       have hS314:=hS313.pick22
       have hS315:=hS314.pick22
       have hS316:=hS315.pick22
       have hS317:=hS316.pick22
       have hS318:=hS317.pick22
       have hS319:=hS318.pick22
       have hS320:=hS319.pick22
       have hS321:=hS320.pick22
       have hS322:=hS321.pick22
       have hS323:=hS322.pick22
       have hS324:=hS323.pick22
       have hS325:=hS324.pick22
       have hS326:=hS325.pick22
       have hS327:=hS326.pick22
       have hS328:=hS327.pick22
       have hS329:=hS328.pick22
       have hS330:=hS329.pick22
       exact rF _ (J217 false (Option.some.inj hp300) _ _ hS330)
      refine sR 4 td48 ?_
      have hS332:=hS188.pick21
      have hS333:=hS332.drop
      exact rF _ (J178 t181 t186 ((Option.some.inj hp331).trans he191) _ A182 c183 _ hS333)
     have hS334:=hS167.pick19
     have hS335:=hS334.pick9
     have hS336:=hS335.pick21
     have hS337:=hS336.pick21
     have hS338:=hS337.pick21
     have hS339:=hS338.pick21
     have hS340:=hS339.pick21
     have hS341:=hS340.pick21
     have hS342:=hS341.pick21
     have hS343:=hS342.pick16
     have hS344:=hS343.pick21
     have hS345:=hS344.pick21
     have hS346:=hS345.pick21
     have hS347:=hS346.pick19
     have hS348:=hS347.pick19
     have hS349:=hS348.pick19
     have hS350:=hS349.pick19
     have hS351:=hS350.pick19
     have hS352:=hS351.pick19
     have hS353:=hS352.pick21
     have hS354:=hS353.pick21
     exact rF _ (L195 ((t59.take t59.length).drop ((1 : Int).toNat)) 0 t77 _ hv169 rfl _ A99 c100 _ hS354)
    have hp355:=ite_f hp116 h146
    refine sR 3 (.code (cd44 [1,1,0,0,1,0,1,1,0,1,0])::.code p44_14::td48) ?_
    have hS356:=hS141.pick1
    have hS357:=hS356.drop
    have hS358:=hS357.pick17
    have hS359:=hS358.drop
    refine rR (.tuple #[]) Try.func44 ?_
    cases hq87 _ (Option.some.inj hp355)
    exact hR _ _ ⟨Q111,Q112,Q113,Q114,Z142,(Zm.Le.trans hz58 hz143),rfl,hS359,hs144⟩
   refine sR 3 [] ?_
   have hS362:=hS79.pick19
   have hS363:=hS362.drop
   have hS364:=hS363.pick19
   have hS365:=hS364.drop
   exact rF _ (J34 t63 t64 t65 t66 t70 t75 t76 ((Option.some.inj hp361).trans he82) _ Z57 A67 c68 A71 c72 _ hz58 hS365 hs74)
  have hS366:=hS11.pick1
  have hS367:=hS366.pick20
  have hS368:=hS367.pick20
  have hS369:=hS368.pick20
  have hS370:=hS369.pick20
  have hS371:=hS370.pick20
  have hS372:=hS371.pick20
  have hS373:=hS372.pick20
  have hS374:=hS373.pick20
  have hS375:=hS374.pick20
  have hS376:=hS375.pick20
  have hS377:=hS376.pick20
  have hS378:=hS377.pick20
  have hS379:=hS378.pick20
  have hS380:=hS379.pick20
  have hS381:=hS380.pick20
  have hS382:=hS381.pick20
  have hS383:=hS382.pick20
  have hS384:=hS383.pick20
  have hS385:=hS384.pick20
  exact rF _ (L86 ([y19] : List ByteArray) a0c0v3v_1c0vv_3 a0c0v3v_1c0vv_0m a0c0v3v_1c0vv_2m a0c0v5vc0v [] a0c0v7v a0c0v8v (mput ([] : List (ByteArray × explore_visit)) y19 (⟨0,(⟨#[]⟩ : ByteArray),(⟨0,0,0⟩ : api_Pick)⟩ : explore_visit)) _ hv13 rfl _ Z (some ⟨b9,0,none⟩) 1 Aa0c0v5vc0v ca0c0v5vc0v none 0 _ (Zm.Le.refl _) hS385 (SlZ.nil _ _ _ _ _))

def explore_Way.f (y9 : ByteArray) (a0_1c0vv_0m a0_1c0vv_1m a0_1c0vv_2m : List (ByteArray × Int)) (a0_1c0vv_3 : Bool) (a0_1c1v : weirlaw14_Net) (a1 : Int) (a2c0v : List ByteArray) (a2c1vm : List (ByteArray × Int)) : Option ((List api_Pick) × Int × Bool × (List (ByteArray × Int)) × (List (ByteArray × Int)) × (List ByteArray)) :=
  (explore_walk.f y9 a0_1c0vv_0m a0_1c0vv_1m a0_1c0vv_2m a0_1c0vv_3 a0_1c1v >>= (fun t27 => (explore_walk_1.f y9 a0_1c0vv_0m a0_1c0vv_1m a0_1c0vv_2m a0_1c0vv_3 a0_1c1v a1 a2c0v a2c1vm 0 0 t27 >>= (fun (t53,t54,t55,t56,t57,t58,t59,t60) => (if decide (t53 = 0) = true then some (([],3,t54,t55,t56,t57)) else (if t53 = 1 then some ((t58,t59,t54,t55,t56,t57)) else none))))))
theorem explore_Way.ok {y9 : ByteArray} {a0_1c0vv_0m a0_1c0vv_1m a0_1c0vv_2m : List (ByteArray × Int)} {a0_1c0vv_3 : Bool} {a0_1c1v : weirlaw14_Net} {a1 : Int} {a2c0v : List ByteArray} {a2c1vm : List (ByteArray × Int)} {ba0_1c0 ba0_1c0v : Nat} {ba0_1c0vv_0 ba0_1c0vv_1 : Nat} {ba0_1c0vv_2 ba0_1c1 : Nat} {Aa0_1c1v_0 : Option Addr} {ca0_1c1v_0 : Nat} {Aa0_1c1v_1 : Option Addr} {ca0_1c1v_1 : Nat} {Aa0_1c1v_2 : Option Addr} {ca0_1c1v_2 ba2c0 : Nat} {Aa2c0v : Option Addr} {ca2c0v ba2c1 ba2c1v : Nat} {q0 : List api_Pick} {q1 : Int} {q2 : Bool} {q3 q4 : List (ByteArray × Int)} {q5 : List ByteArray} (hp0 : explore_Way.f y9 a0_1c0vv_0m a0_1c0vv_1m a0_1c0vv_2m a0_1c0vv_3 a0_1c1v a1 a2c0v a2c1vm = some (q0,q1,q2,q3,q4,q5)) (hS0 : St w0 Z (xblk ba0_1c0 33 ([.pointer (some ⟨ba0_1c0v,0,none⟩)])::xblk ba0_1c0v 49 ([.map (some ba0_1c0vv_0),.map (some ba0_1c0vv_1),.map (some ba0_1c0vv_2),.bool a0_1c0vv_3])::xmap ba0_1c0vv_0 (a0_1c0vv_0m.map (kv Value.string (Value.int .i64)))::xmap ba0_1c0vv_1 (a0_1c0vv_1m.map (kv Value.string (Value.int .i64)))::xmap ba0_1c0vv_2 (a0_1c0vv_2m.map (kv Value.string (Value.int .i64)))::xblk ba0_1c1 26 ([.slice Aa0_1c1v_0 a0_1c1v.Next.length ca0_1c1v_0,.slice Aa0_1c1v_1 a0_1c1v.End.length ca0_1c1v_1,.slice Aa0_1c1v_2 a0_1c1v.Value.length ca0_1c1v_2,.int .i64 a0_1c1v.Start])::xblk ba2c0 36 ([.slice Aa2c0v a2c0v.length ca2c0v])::xrow Aa2c0v ca2c0v 9 1 (a2c0v.flatMap encS)::xblk ba2c1 41 ([.map (some ba2c1v)])::xmap ba2c1v (a2c1vm.map (kv Value.string (Value.int .i64)))::fs) w) (ha0_1c1v_0 : SlZ (repL (flat (encI .i64)) 1) 1 Z Aa0_1c1v_0 ca0_1c1v_0 a0_1c1v.Next) (ha0_1c1v_1 : SlZ (flat encB) 1 Z Aa0_1c1v_1 ca0_1c1v_1 a0_1c1v.End) (ha0_1c1v_2 : SlZ (flat (encI .i64)) 1 Z Aa0_1c1v_2 ca0_1c1v_2 a0_1c1v.Value) :
    Calls Try.prog 14 #[.agg #[.string y9,.func (.func 28) #[] #[.pointer (some ⟨ba0_1c0,0,none⟩),.pointer (some ⟨ba0_1c1,0,none⟩)],.func (.func 31) #[] #[.pointer (some ⟨ba0_1c1,0,none⟩),.pointer (some ⟨ba0_1c0,0,none⟩)],.func (.func 32) #[] #[.pointer (some ⟨ba0_1c0,0,none⟩),.pointer (some ⟨ba0_1c1,0,none⟩)]],.int .i64 a1,.func (.func 15) #[] #[.pointer (some ⟨ba2c0,0,none⟩),.pointer (some ⟨ba2c1,0,none⟩)]] w (fun e w' => ∃ (QA0 : Option Addr) (Qc0 : Nat) (QA2 : Option Addr) (Qc2 : Nat) (Z' : Zm),Zm.Le Z Z' ∧ e = .returned (.tuple #[.slice QA0 q0.length Qc0,.int .i64 q1]) ∧ St w0 Z' (xrow QA2 Qc2 9 1 (q5.flatMap encS)::xblk ba0_1c0 33 ([.pointer (some ⟨ba0_1c0v,0,none⟩)])::xblk ba0_1c0v 49 ([.map (some ba0_1c0vv_0),.map (some ba0_1c0vv_1),.map (some ba0_1c0vv_2),.bool q2])::xmap ba0_1c0vv_0 (q3.map (kv Value.string (Value.int .i64)))::xmap ba0_1c0vv_1 (a0_1c0vv_1m.map (kv Value.string (Value.int .i64)))::xmap ba0_1c0vv_2 (q4.map (kv Value.string (Value.int .i64)))::xblk ba0_1c1 26 ([.slice Aa0_1c1v_0 a0_1c1v.Next.length ca0_1c1v_0,.slice Aa0_1c1v_1 a0_1c1v.End.length ca0_1c1v_1,.slice Aa0_1c1v_2 a0_1c1v.Value.length ca0_1c1v_2,.int .i64 a0_1c1v.Start])::xblk ba2c0 36 ([.slice QA2 q5.length Qc2])::xblk ba2c1 41 ([.map (some ba2c1v)])::xmap ba2c1v (a2c1vm.map (kv Value.string (Value.int .i64)))::fs) w' ∧ SlZ (flat enc_api_Pick) 3 Z' QA0 Qc0 q0):=by
  refine calls_abs ?_; intro R hR
  unfold explore_Way.f at hp0
  refine calls_of_runs (fn:=Try.f14) (c:=cd14 []) Try.func14 (by kernel_rfl) (al:=[.agg #[.string y9,.func (.func 28) #[] #[.pointer (some ⟨ba0_1c0,0,none⟩),.pointer (some ⟨ba0_1c1,0,none⟩)],.func (.func 31) #[] #[.pointer (some ⟨ba0_1c1,0,none⟩),.pointer (some ⟨ba0_1c0,0,none⟩)],.func (.func 32) #[] #[.pointer (some ⟨ba0_1c0,0,none⟩),.pointer (some ⟨ba0_1c1,0,none⟩)]],.int .i64 a1,.func (.func 15) #[] #[.pointer (some ⟨ba2c0,0,none⟩),.pointer (some ⟨ba2c1,0,none⟩)]]) rfl (n:=25) rfl ?_
  refine sR 2 [iR (cd14 [0]) 0 5,.code (cd14 [1])] ?_
  refine r_box (c:=(cd14 [0])) (i:=0) (d:=(some 3)) (ty:=0) (x:=(.tmp 0)) (v:=.agg #[.string y9,.func (.func 28) #[] #[.pointer (some ⟨ba0_1c0,0,none⟩),.pointer (some ⟨ba0_1c1,0,none⟩)],.func (.func 31) #[] #[.pointer (some ⟨ba0_1c1,0,none⟩),.pointer (some ⟨ba0_1c0,0,none⟩)],.func (.func 32) #[] #[.pointer (some ⟨ba0_1c0,0,none⟩),.pointer (some ⟨ba0_1c1,0,none⟩)]]) (t:=32) (cs:=[.string y9,.func (.func 28) #[] #[.pointer (some ⟨ba0_1c0,0,none⟩),.pointer (some ⟨ba0_1c1,0,none⟩)],.func (.func 31) #[] #[.pointer (some ⟨ba0_1c1,0,none⟩),.pointer (some ⟨ba0_1c0,0,none⟩)],.func (.func 32) #[] #[.pointer (some ⟨ba0_1c0,0,none⟩),.pointer (some ⟨ba0_1c1,0,none⟩)]]) hS0 (by kernel_rfl) (by kernel_rfl) (by kernel_rfl) (by kernel_rfl) ?_
  intro b1 w2 hS3
  refine r_box (c:=(cd14 [0])) (i:=1) (d:=(some 4)) (ty:=0) (x:=(.tmp 1)) (v:=.int .i64 a1) (t:=3) (cs:=[.int .i64 a1]) hS3 (by kernel_rfl) (by kernel_rfl) (by kernel_rfl) (by kernel_rfl) ?_
  intro b5 w6 hS7
  refine r_box (c:=(cd14 [0])) (i:=2) (d:=(some 5)) (ty:=0) (x:=(.tmp 2)) (v:=.func (.func 15) #[] #[.pointer (some ⟨ba2c0,0,none⟩),.pointer (some ⟨ba2c1,0,none⟩)]) (t:=56) (cs:=[.func (.func 15) #[] #[.pointer (some ⟨ba2c0,0,none⟩),.pointer (some ⟨ba2c1,0,none⟩)]]) hS7 (by kernel_rfl) (by kernel_rfl) (by kernel_rfl) (by kernel_rfl) ?_
  intro b9 w10 hS11
  refine rA 40 (.slice none 0 0) [.slice none 0 0] hS11 ?_
  intro b13 w14 hS15
  refine rA 53 (.int .i64 0) [.int .i64 0] hS15 ?_
  intro b17 w18 hS19
  refine sR 3 [.inRegion (opsOf (cd14 [1,0])) [0,1],.code (cd14 [1,1])] ?_
  refine rA 3 (.int .i64 0) [.int .i64 0] hS19 ?_
  intro b21 w22 hS23
  refine rS 3 (.tmp 8) (.const (.int .i64 0)) 0 (.int .i64 0) [.int .i64 0] [.int .i64 0] hS23 ?_
  intro w25 hS26
  refine sR 4 [.inRegion (opsOf (cd14 [1,1,0,0])) [0,1],.code (cd14 [1,1,0,1]),.code (cd14 [1,1,1])] ?_
  refine rLa 32 (.tmp 3) (hS26.blk 5 rfl) ?_
  obtain ⟨t27,hr30,hp31⟩:=bind_some' hp0
  have hS37:=hS26.pick11
  have hS38:=hS37.pick11
  have hS39:=hS38.pick11
  have hS40:=hS39.pick11
  have hS41:=hS40.pick11
  have hS42:=hS41.pick11
  refine rC (explore_walk.ok hr30 hS42 ha0_1c1v_0 ha0_1c1v_1 ha0_1c1v_2) ?_
  rintro _ w43 ⟨Q28,Q29,rfl,hS44⟩
  refine ⟨_,rfl,?_⟩
  refine sR 2 [.code (cd14 [1,1,0,1,0]),.inBlock 0,.code (cd14 [1,1,1])] ?_
  refine Runs.fillG (m:=(mk 28 [(3,.pointer (some ⟨b1,0,none⟩)),(4,.pointer (some ⟨b5,0,none⟩)),(5,.pointer (some ⟨b9,0,none⟩)),(6,.pointer (some ⟨b13,0,none⟩)),(7,.pointer (some ⟨b17,0,none⟩)),(8,.pointer (some ⟨b21,0,none⟩)),(12,.func (.func 44) #[] #[.pointer (some ⟨Q28,0,none⟩),.pointer (some ⟨Q29,0,none⟩)])])) (by kernel_rfl) ?_
  intro l45
  refine r_rangeF (c:=(cd14 [1,1,0,1,0])) (g:=(.tmp 12)) (ps:=#[13,14]) (am:=p14_0) (bd:=p14_1) (gf:=44) (caps:=#[.pointer (some ⟨Q28,0,none⟩),.pointer (some ⟨Q29,0,none⟩)]) (args:=fun L => #[.func (.yield L) #[] #[],.pointer (some ⟨Q28,0,none⟩),.pointer (some ⟨Q29,0,none⟩)]) [p14_2] hS44 (by kernel_rfl) (by kernel_rfl) (fun _ => (by kernel_rfl)) ?_
  intro D47 L46 w48 hS49
  have hS52 : St w0 Z (xlp L46 14 (fill (mk 28 [(3,.pointer (some ⟨b1,0,none⟩)),(4,.pointer (some ⟨b5,0,none⟩)),(5,.pointer (some ⟨b9,0,none⟩)),(6,.pointer (some ⟨b13,0,none⟩)),(7,.pointer (some ⟨b17,0,none⟩)),(8,.pointer (some ⟨b21,0,none⟩))]) (fill (mk 28 [(3,.pointer (some ⟨b1,0,none⟩)),(4,.pointer (some ⟨b5,0,none⟩)),(5,.pointer (some ⟨b9,0,none⟩)),(6,.pointer (some ⟨b13,0,none⟩)),(7,.pointer (some ⟨b17,0,none⟩)),(8,.pointer (some ⟨b21,0,none⟩)),(12,.func (.func 44) #[] #[.pointer (some ⟨Q28,0,none⟩),.pointer (some ⟨Q29,0,none⟩)])]) l45)) #[13,14] p14_0 p14_1 D47 [p14_2] 0::xdef D47::xblk Q28 32 ([.string t27,.func (.func 28) #[] #[.pointer (some ⟨ba0_1c0,0,none⟩),.pointer (some ⟨ba0_1c1,0,none⟩)],.func (.func 31) #[] #[.pointer (some ⟨ba0_1c1,0,none⟩),.pointer (some ⟨ba0_1c0,0,none⟩)],.func (.func 32) #[] #[.pointer (some ⟨ba0_1c0,0,none⟩),.pointer (some ⟨ba0_1c1,0,none⟩)]])::xblk Q29 130 ([.nilFunc])::xblk ba0_1c0 33 ([.pointer (some ⟨ba0_1c0v,0,none⟩)])::xblk ba0_1c0v 49 ([.map (some ba0_1c0vv_0),.map (some ba0_1c0vv_1),.map (some ba0_1c0vv_2),.bool a0_1c0vv_3])::xmap ba0_1c0vv_0 (a0_1c0vv_0m.map (kv Value.string (Value.int .i64)))::xmap ba0_1c0vv_1 (a0_1c0vv_1m.map (kv Value.string (Value.int .i64)))::xmap ba0_1c0vv_2 (a0_1c0vv_2m.map (kv Value.string (Value.int .i64)))::xblk ba0_1c1 26 ([.slice Aa0_1c1v_0 a0_1c1v.Next.length ca0_1c1v_0,.slice Aa0_1c1v_1 a0_1c1v.End.length ca0_1c1v_1,.slice Aa0_1c1v_2 a0_1c1v.Value.length ca0_1c1v_2,.int .i64 a0_1c1v.Start])::xblk b21 3 ([.int .i64 0])::xblk b17 53 ([.int .i64 0])::xblk b13 40 ([.slice none 0 0])::xblk b9 56 ([.func (.func 15) #[] #[.pointer (some ⟨ba2c0,0,none⟩),.pointer (some ⟨ba2c1,0,none⟩)]])::xblk b5 3 ([.int .i64 a1])::xblk b1 32 ([.string y9,.func (.func 28) #[] #[.pointer (some ⟨ba0_1c0,0,none⟩),.pointer (some ⟨ba0_1c1,0,none⟩)],.func (.func 31) #[] #[.pointer (some ⟨ba0_1c1,0,none⟩),.pointer (some ⟨ba0_1c0,0,none⟩)],.func (.func 32) #[] #[.pointer (some ⟨ba0_1c0,0,none⟩),.pointer (some ⟨ba0_1c1,0,none⟩)]])::xblk ba2c0 36 ([.slice Aa2c0v a2c0v.length ca2c0v])::xrow Aa2c0v ca2c0v 9 1 (a2c0v.flatMap encS)::xblk ba2c1 41 ([.map (some ba2c1v)])::xmap ba2c1v (a2c1vm.map (kv Value.string (Value.int .i64)))::fs) w48:=hS49
  obtain ⟨⟨t53,t54,t55,t56,t57,t58,t59,t60⟩,hr65,hp66⟩:=bind_some' hp31
  try dsimp only at hp66
  have hS72:=hS52.pick3
  have hS73:=hS72.pick3
  have hS74:=hS73.pick10
  have hS75:=hS74.pick11
  have hS76:=hS75.pick12
  have hS77:=hS76.pick19
  have hS78:=hS77.pick19
  have hS79:=hS78.pick19
  have hS80:=hS79.pick19
  have hS81:=hS80.pick17
  have hS82:=hS81.pick18
  have hS83:=hS82.pick18
  have hS84:=hS83.pick18
  have hS85:=hS84.pick18
  have hS86:=hS85.pick18
  have hS87:=hS86.pick18
  have hS88:=hS87.pick18
  have hS89:=hS88.pick19
  have hS90:=hS89.pick18
  refine ⟨_,(explore_walk_1.ok hr65 hS90 ha0_1c1v_0 ha0_1c1v_1 ha0_1c1v_2),?_⟩
  rintro _ w91 ⟨Q61,Q62,Q63,Q64,Z93,hz94,rfl,hS92,hs95⟩
  refine ⟨⟨_,rfl⟩,?_⟩
  have hS96:=hS92.pick1
  rcases Bool.eq_false_or_eq_true (decide (t53 = 0)) with h97 | h98
  ·have hp99:=ite_t hp66 h97
   have hS100 : St w0 Z93 (xlp L46 14 (fill (mk 28 [(3,.pointer (some ⟨b1,0,none⟩)),(4,.pointer (some ⟨b5,0,none⟩)),(5,.pointer (some ⟨b9,0,none⟩)),(6,.pointer (some ⟨b13,0,none⟩)),(7,.pointer (some ⟨b17,0,none⟩)),(8,.pointer (some ⟨b21,0,none⟩))]) (fill (mk 28 [(3,.pointer (some ⟨b1,0,none⟩)),(4,.pointer (some ⟨b5,0,none⟩)),(5,.pointer (some ⟨b9,0,none⟩)),(6,.pointer (some ⟨b13,0,none⟩)),(7,.pointer (some ⟨b17,0,none⟩)),(8,.pointer (some ⟨b21,0,none⟩)),(12,.func (.func 44) #[] #[.pointer (some ⟨Q28,0,none⟩),.pointer (some ⟨Q29,0,none⟩)])]) l45)) #[13,14] p14_0 p14_1 D47 [p14_2] 0::xrow Q61 Q62 9 1 (t57.flatMap encS)::xblk b1 32 ([.string y9,.func (.func 28) #[] #[.pointer (some ⟨ba0_1c0,0,none⟩),.pointer (some ⟨ba0_1c1,0,none⟩)],.func (.func 31) #[] #[.pointer (some ⟨ba0_1c1,0,none⟩),.pointer (some ⟨ba0_1c0,0,none⟩)],.func (.func 32) #[] #[.pointer (some ⟨ba0_1c0,0,none⟩),.pointer (some ⟨ba0_1c1,0,none⟩)]])::xblk ba0_1c0 33 ([.pointer (some ⟨ba0_1c0v,0,none⟩)])::xblk ba0_1c0v 49 ([.map (some ba0_1c0vv_0),.map (some ba0_1c0vv_1),.map (some ba0_1c0vv_2),.bool t54])::xmap ba0_1c0vv_0 (t55.map (kv Value.string (Value.int .i64)))::xmap ba0_1c0vv_1 (a0_1c0vv_1m.map (kv Value.string (Value.int .i64)))::xmap ba0_1c0vv_2 (t56.map (kv Value.string (Value.int .i64)))::xblk ba0_1c1 26 ([.slice Aa0_1c1v_0 a0_1c1v.Next.length ca0_1c1v_0,.slice Aa0_1c1v_1 a0_1c1v.End.length ca0_1c1v_1,.slice Aa0_1c1v_2 a0_1c1v.Value.length ca0_1c1v_2,.int .i64 a0_1c1v.Start])::xblk b5 3 ([.int .i64 a1])::xblk b9 56 ([.func (.func 15) #[] #[.pointer (some ⟨ba2c0,0,none⟩),.pointer (some ⟨ba2c1,0,none⟩)]])::xblk ba2c0 36 ([.slice Q61 t57.length Q62])::xblk ba2c1 41 ([.map (some ba2c1v)])::xmap ba2c1v (a2c1vm.map (kv Value.string (Value.int .i64)))::xblk b13 40 ([.slice Q63 t58.length Q64])::xblk b17 53 ([.int .i64 t59])::xblk b21 3 ([.int .i64 t60])::xblk Q28 32 ([.string t27,.func (.func 28) #[] #[.pointer (some ⟨ba0_1c0,0,none⟩),.pointer (some ⟨ba0_1c1,0,none⟩)],.func (.func 31) #[] #[.pointer (some ⟨ba0_1c1,0,none⟩),.pointer (some ⟨ba0_1c0,0,none⟩)],.func (.func 32) #[] #[.pointer (some ⟨ba0_1c0,0,none⟩),.pointer (some ⟨ba0_1c1,0,none⟩)]])::xblk Q29 130 ([.nilFunc])::xdef D47::fs) w91:=by have h:=hS96; rw [of_decide_eq_true h97] at h; exact h
   refine r_endF0 hS100 ?_
   intro w101 hS102
   refine sR 3 [.inRegion (opsOf (cd14 [1,1,1,0])) [0,1],.code (cd14 [1,1,1,1])] ?_
   have hS103:=hS102.pick13
   refine rS 40 (.tmp 6) (.const (.slice none 0 0)) 0 (.slice none 0 0) [.slice none 0 0] [.slice none 0 0] hS103 ?_
   intro w104 hS105
   have hS106:=hS105.pick14
   refine rS 53 (.tmp 7) (.const (.int .i64 3)) 0 (.int .i64 3) [.int .i64 3] [.int .i64 3] hS106 ?_
   intro w107 hS108
   refine sR 1 [.code (cd14 [1,1,1,1])] ?_
   refine runsC_ret (fn:=Try.f14) Try.func14 ?_
   have hS109:=hS108.pick18
   refine leavesC_cons hS109 ?_
   intro w110 hS111
   have hS112:=hS111.drop
   have hS113:=hS112.drop
   have hS114:=hS113.pick1
   have hS115:=hS114.drop
   have hS116:=hS115.pick7
   have hS117:=hS116.drop
   have hS118:=hS117.pick7
   have hS119:=hS118.drop
   have hS120:=hS119.pick10
   have hS121:=hS120.drop
   have hS122:=hS121.pick10
   have hS123:=hS122.drop
   have hS124:=hS123.pick10
   have hS125:=hS124.drop
   refine leavesC_nil (v:=.tuple #[.slice none 0 0,.int .i64 3]) (resl_run (fn:=Try.f14) (by kernel_rfl) (.cell (t:=6) (ty:=40) (by kernel_rfl) (loads_at 0 (hS111.blk 1 rfl) (by kernel_rfl) (by kernel_rfl)) (.cell (t:=7) (ty:=53) (by kernel_rfl) (loads_at 0 (hS111.blk 0 rfl) (by kernel_rfl) (by kernel_rfl)) .nil))) ?_
   cases Option.some.inj hp99
   exact hR _ _ ⟨none,0,Q61,Q62,Z93,hz94,rfl,hS125,(SlZ.nil _ _ _ _ _)⟩
  have hp127:=ite_f hp66 h98
  obtain ⟨g128,hp129⟩:=ite_some hp127
  have hS130 : St w0 Z93 (xlp L46 14 (fill (mk 28 [(3,.pointer (some ⟨b1,0,none⟩)),(4,.pointer (some ⟨b5,0,none⟩)),(5,.pointer (some ⟨b9,0,none⟩)),(6,.pointer (some ⟨b13,0,none⟩)),(7,.pointer (some ⟨b17,0,none⟩)),(8,.pointer (some ⟨b21,0,none⟩))]) (fill (mk 28 [(3,.pointer (some ⟨b1,0,none⟩)),(4,.pointer (some ⟨b5,0,none⟩)),(5,.pointer (some ⟨b9,0,none⟩)),(6,.pointer (some ⟨b13,0,none⟩)),(7,.pointer (some ⟨b17,0,none⟩)),(8,.pointer (some ⟨b21,0,none⟩)),(12,.func (.func 44) #[] #[.pointer (some ⟨Q28,0,none⟩),.pointer (some ⟨Q29,0,none⟩)])]) l45)) #[13,14] p14_0 p14_1 D47 [p14_2] 1::xrow Q61 Q62 9 1 (t57.flatMap encS)::xblk b1 32 ([.string y9,.func (.func 28) #[] #[.pointer (some ⟨ba0_1c0,0,none⟩),.pointer (some ⟨ba0_1c1,0,none⟩)],.func (.func 31) #[] #[.pointer (some ⟨ba0_1c1,0,none⟩),.pointer (some ⟨ba0_1c0,0,none⟩)],.func (.func 32) #[] #[.pointer (some ⟨ba0_1c0,0,none⟩),.pointer (some ⟨ba0_1c1,0,none⟩)]])::xblk ba0_1c0 33 ([.pointer (some ⟨ba0_1c0v,0,none⟩)])::xblk ba0_1c0v 49 ([.map (some ba0_1c0vv_0),.map (some ba0_1c0vv_1),.map (some ba0_1c0vv_2),.bool t54])::xmap ba0_1c0vv_0 (t55.map (kv Value.string (Value.int .i64)))::xmap ba0_1c0vv_1 (a0_1c0vv_1m.map (kv Value.string (Value.int .i64)))::xmap ba0_1c0vv_2 (t56.map (kv Value.string (Value.int .i64)))::xblk ba0_1c1 26 ([.slice Aa0_1c1v_0 a0_1c1v.Next.length ca0_1c1v_0,.slice Aa0_1c1v_1 a0_1c1v.End.length ca0_1c1v_1,.slice Aa0_1c1v_2 a0_1c1v.Value.length ca0_1c1v_2,.int .i64 a0_1c1v.Start])::xblk b5 3 ([.int .i64 a1])::xblk b9 56 ([.func (.func 15) #[] #[.pointer (some ⟨ba2c0,0,none⟩),.pointer (some ⟨ba2c1,0,none⟩)]])::xblk ba2c0 36 ([.slice Q61 t57.length Q62])::xblk ba2c1 41 ([.map (some ba2c1v)])::xmap ba2c1v (a2c1vm.map (kv Value.string (Value.int .i64)))::xblk b13 40 ([.slice Q63 t58.length Q64])::xblk b17 53 ([.int .i64 t59])::xblk b21 3 ([.int .i64 t60])::xblk Q28 32 ([.string t27,.func (.func 28) #[] #[.pointer (some ⟨ba0_1c0,0,none⟩),.pointer (some ⟨ba0_1c1,0,none⟩)],.func (.func 31) #[] #[.pointer (some ⟨ba0_1c1,0,none⟩),.pointer (some ⟨ba0_1c0,0,none⟩)],.func (.func 32) #[] #[.pointer (some ⟨ba0_1c0,0,none⟩),.pointer (some ⟨ba0_1c1,0,none⟩)]])::xblk Q29 130 ([.nilFunc])::xdef D47::fs) w91:=by have h:=hS96; rw [g128] at h; exact h
  refine r_endFj 0 (cj:=p14_2) (by kernel_rfl) hS130 ?_
  intro w131 hS132
  refine runsC_ret (fn:=Try.f14) Try.func14 ?_
  have hS133:=hS132.pick18
  refine leavesC_cons hS133 ?_
  intro w134 hS135
  have hS136:=hS135.pick1
  have hS137:=hS136.drop
  have hS138:=hS137.pick7
  have hS139:=hS138.drop
  have hS140:=hS139.pick7
  have hS141:=hS140.drop
  have hS142:=hS141.pick10
  have hS143:=hS142.drop
  have hS144:=hS143.pick10
  have hS145:=hS144.drop
  have hS146:=hS145.pick10
  have hS147:=hS146.drop
  have hS148:=hS147.pick10
  have hS149:=hS148.drop
  have hS150:=hS149.pick10
  have hS151:=hS150.drop
  refine leavesC_nil (v:=.tuple #[.slice Q63 t58.length Q64,.int .i64 t59]) (resl_run (fn:=Try.f14) (by kernel_rfl) (.cell (t:=6) (ty:=40) (by kernel_rfl) (loads_at 0 (hS135.blk 13 rfl) (by kernel_rfl) (by kernel_rfl)) (.cell (t:=7) (ty:=53) (by kernel_rfl) (loads_at 0 (hS135.blk 14 rfl) (by kernel_rfl) (by kernel_rfl)) .nil))) ?_
  cases Option.some.inj hp129
  exact hR _ _ ⟨Q63,Q64,Q61,Q62,Z93,hz94,rfl,hS151,hs95⟩

end
end Go.Proofs.Ytfiamlhhhkiiaaa.K
