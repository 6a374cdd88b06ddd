/- The walk, part 1: each Go function as a plain Lean function, and that its call answers as that function says. No condition. -/
import Derived.Test.YtfiamlhhhkiiaaaE
import Derived.Test.YtfiamlhhhkiiaaaNG
import Derived.Test.YtfiamlhhhkiiaaaNP
import Derived.Test.YtfiamlhhhkiiaaaNM
import Derived.Test.YtfiamlhhhkiiaaaNQ
import Derived.Test.YtfiamlhhhkiiaaaNI
import Derived.Test.YtfiamlhhhkiiaaaNX
import Derived.Test.YtfiamlhhhkiiaaaNY
import Derived.Test.YtfiamlhhhkiiaaaNC
import Derived.Test.YtfiamlhhhkiiaaaNF
import Derived.Test.YtfiamlhhhkiiaaaNW
import Derived.Test.YtfiamlhhhkiiaaaNK
import Derived.Test.YtfiamlhhhkiiaaaND
import Derived.Test.YtfiamlhhhkiiaaaRB
set_option linter.unusedVariables false
set_option linter.unusedSimpArgs false
set_option maxRecDepth 100000
set_option synthInstance.maxSize 100000
set_option synthInstance.maxHeartbeats 4000000
namespace Go.Proofs.Ytfiamlhhhkiiaaa.K
open Go Go.RowKit
noncomputable section
set_option maxHeartbeats 16000000
variable {w0 : World} {Z : Zm} {fs : List XObj} {w : World}
noncomputable def cd8 (p : List Nat) : Code := sub (bodyOf Try.f8) p
abbrev p8_4:=cd8 [1,1,1,0]
abbrev p8_6:=cd8 [1,1,0,1,0,0,0,0]
abbrev p8_9:=cd8 [1,1,0,1,0,0,1,0,0,0]
abbrev p8_10:=cd8 [1,1,0,1,0,0,1,0,0,1]
abbrev p8_12:=cd8 [1,1,0,1,0,0,1,0,0,1,0]
abbrev p8_14:=cd8 [1,1,0,1,0,0,1,0,0,1,1,0,1]
abbrev td1:List Item:=[.code (cd8 [1,1,1])]
abbrev td2:List Item:=.inBlock 0::td1
abbrev td3:List Item:=.inLoop (cd8 [1,1,0,1,0,0])::td2
abbrev td4:List Item:=.code (cd8 [1,1,0,1,0,0])::td3
abbrev td5:List Item:=[.code (cd8 [1,1,1,1])]
abbrev td6:List Item:=.code (cd8 [1,1,0,1,0,0,1])::td3
abbrev td7:List Item:=.code (cd8 [1,1,0,1,0,0,0,1])::td6
abbrev td8:List Item:=.code (cd8 [1,1,0,1,0,0,1,1])::td3
abbrev td9:List Item:=.inBlock 1::td8
abbrev td10:List Item:=.code (cd8 [1,1,0,1,0,0,1,0,0,1,1])::td9
def weirlaw14_Net__fine.l0 (a0 : weirlaw14_Net) (t41 t42 : Int) : Option (Sum Int Bool) :=
  (if (decide (t42 < (a0.Next.length : Int))) = true then (if (decide (t41 ≤ 200000)) = true then (if 0 ≤ t42 ∧ t42 < (a0.Next.length : Int) then (if 0 ≤ t42 ∧ t42 < (a0.Next.length : Int) then (if (decide (((gt a0.Next t42).length : Int) > 60000)) = true then some (.inr (false)) else (weirlaw14_Net__fine.l0 a0 (IntKind.i64.wrap (t41 + ((gt a0.Next t42).length : Int))) (IntKind.i64.wrap (t42 + 1)))) else none) else none) else some (.inl t41)) else some (.inl t41))
 partial_fixpoint
def weirlaw14_Net__fine.f (a0 : weirlaw14_Net) : Option Bool :=
  (weirlaw14_Net__fine.l0 a0 0 0 >>= (fun | .inl t8 => (if (decide ((a0.Next.length : Int) ≤ 60000)) = true then (if (decide (t8 ≤ 200000)) = true then (if (decide (a0.Start ≥ 0)) = true then (if (decide (a0.Start < (a0.Next.length : Int))) = true then some (true) else some (false)) else some (false)) else some (false)) else some (false)) | .inr e => some e))
theorem weirlaw14_Net__fine.ok {a0 : weirlaw14_Net} {y0 : Option Addr} {y1 : Nat} {y2 : Option Addr} {y3 : Nat} {y4 : Option Addr} {y5 : Nat} {q0 : Bool} (hp0 : weirlaw14_Net__fine.f a0 = some q0) (hS0 : St w0 Z (fs) w) (y6 : SlZ (repL (flat (encI .i64)) 1) 1 Z y0 y1 a0.Next) (y7 : SlZ (flat encB) 1 Z y2 y3 a0.End) (y8 : SlZ (flat (encI .i64)) 1 Z y4 y5 a0.Value) :
    Calls Try.prog 8 #[.agg #[.slice y0 a0.Next.length y1,.slice y2 a0.End.length y3,.slice y4 a0.Value.length y5,.int .i64 a0.Start]] w (fun e w' => e = .returned (.bool q0) ∧ St w0 Z (fs) w'):=by
  refine calls_abs ?_; intro R hR
  unfold weirlaw14_Net__fine.f at hp0
  refine calls_of_runs (fn:=Try.f8) (c:=cd8 []) Try.func8 (by kernel_rfl) (al:=[.agg #[.slice y0 a0.Next.length y1,.slice y2 a0.End.length y3,.slice y4 a0.Value.length y5,.int .i64 a0.Start]]) rfl (n:=51) rfl ?_
  refine sR 2 [.inRegion (opsOf (cd8 [0])) [0,1],.code (cd8 [1])] ?_
  refine r_box (c:=(cd8 [0])) (i:=0) (d:=(some 1)) (ty:=0) (x:=(.tmp 0)) (v:=.agg #[.slice y0 a0.Next.length y1,.slice y2 a0.End.length y3,.slice y4 a0.Value.length y5,.int .i64 a0.Start]) (t:=26) (cs:=[.slice y0 a0.Next.length y1,.slice y2 a0.End.length y3,.slice y4 a0.Value.length y5,.int .i64 a0.Start]) hS0 (by kernel_rfl) (by kernel_rfl) (by kernel_rfl) (by kernel_rfl) ?_
  intro b1 w2 hS3
  refine sR 13 td4 ?_
  obtain ⟨v5,hv6,hp7⟩:=bind_some' hp0
  have hq11 : ∀ x,Sum.inr x = v5 → x = q0:=by intro x hx; subst hx; simpa using hp7
  have J12 : ∀ (t8 : Int) (he14 : Sum.inl t8 = v5) (l13 : List Value) (w9 : World) (hS10 : St w0 Z (xblk b1 26 ([.slice y0 a0.Next.length y1,.slice y2 a0.End.length y3,.slice y4 a0.Value.length y5,.int .i64 a0.Start])::fs) w9),Runs Try.prog (fx 8) td1 (fill (mk 52 [(1,.pointer (some ⟨b1,0,none⟩)),(3,.int .i64 t8)]) l13) w9 R:=by
   intro t8 he14 l13 w9 hS10
   subst he14
   try dsimp only at hp7
   refine sR 3 (iR p8_4 1 21::td5) ?_
   refine rL1 22 (.tmp 31) 0 (hS10.blk 0 rfl) ?_
   refine sI 2 (iR p8_4 4 18::td5) 34 hp7 (fun hp17 => ?_) fun hp38 => ?_
   ·refine sI 3 (iR p8_4 7 15::td5) 37 hp17 (fun hp20 => ?_) fun hp35 => ?_
    ·refine sR 3 (iR p8_4 10 12::td5) ?_
     refine rL1 3 (.tmp 40) 3 (hS10.blk 0 rfl) ?_
     refine sI 1 (iR p8_4 12 10::td5) 42 hp20 (fun hp23 => ?_) fun hp32 => ?_
     ·refine sR 3 (iR p8_4 15 7::td5) ?_
      refine rL1 3 (.tmp 45) 3 (hS10.blk 0 rfl) ?_
      refine sR 1 (iR p8_4 17 5::td5) ?_
      refine rL1 22 (.tmp 47) 0 (hS10.blk 0 rfl) ?_
      refine sI 2 (.inRegion (opsOf p8_4) [20,21]::td5) 50 hp23 (fun hp26 => ?_) fun hp29 => ?_
      ·refine sR 3 td5 ?_
       have hS27:=hS10.drop
       refine rR (.bool true) Try.func8 ?_
       cases Option.some.inj hp26
       exact hR _ _ ⟨rfl,hS27⟩
      refine sR 3 td5 ?_
      have hS30:=hS10.drop
      refine rR (.bool false) Try.func8 ?_
      cases Option.some.inj hp29
      exact hR _ _ ⟨rfl,hS30⟩
     refine sR 11 td5 ?_
     have hS33:=hS10.drop
     refine rR (.bool false) Try.func8 ?_
     cases Option.some.inj hp32
     exact hR _ _ ⟨rfl,hS33⟩
    refine sR 16 td5 ?_
    have hS36:=hS10.drop
    refine rR (.bool false) Try.func8 ?_
    cases Option.some.inj hp35
    exact hR _ _ ⟨rfl,hS36⟩
   refine sR 19 td5 ?_
   have hS39:=hS10.drop
   refine rR (.bool false) Try.func8 ?_
   cases Option.some.inj hp38
   exact hR _ _ ⟨rfl,hS39⟩
  have L51 : ∀ (t41 t42 : Int) (e46 : Sum Int Bool),weirlaw14_Net__fine.l0 a0 t41 t42 = some e46 → e46 = v5 → ∀ (l45 : List Value) (w43 : World) (hS44 : St w0 Z (xblk b1 26 ([.slice y0 a0.Next.length y1,.slice y2 a0.End.length y3,.slice y4 a0.Value.length y5,.int .i64 a0.Start])::fs) w43),Runs Try.prog (fx 8) td4 (fill (mk 52 [(1,.pointer (some ⟨b1,0,none⟩)),(3,.int .i64 t41),(4,.int .i64 t42)]) l45) w43 R:=by
   refine weirlaw14_Net__fine.l0.partial_correctness a0 (fun t41 t42 e46 => e46 = v5 → ∀ (l45 : List Value) (w43 : World) (hS44 : St w0 Z (xblk b1 26 ([.slice y0 a0.Next.length y1,.slice y2 a0.End.length y3,.slice y4 a0.Value.length y5,.int .i64 a0.Start])::fs) w43),Runs Try.prog (fx 8) td4 (fill (mk 52 [(1,.pointer (some ⟨b1,0,none⟩)),(3,.int .i64 t41),(4,.int .i64 t42)]) l45) w43 R) ?_
   intro rec50 ih49 t41 t42 e46 hb48 he47 l45 w43 hS44
   have hq52 : ∀ x,Sum.inr x = e46 → x = q0:=fun x hx => hq11 x (hx.trans he47)
   refine sR 5 (iR p8_6 2 7::td7) ?_
   refine rL1 22 (.tmp 6) 0 (hS44.blk 0 rfl) ?_
   refine sI 2 (iR p8_6 5 4::td7) 9 hb48 (fun hp55 => ?_) fun hp92 => ?_
   ·refine sI 3 (.inRegion (opsOf p8_6) [8]::td7) 12 hp55 (fun hp58 => ?_) fun hp91 => ?_
    ·refine sR 10 (iR p8_9 2 7::.code p8_10::td9) ?_
     refine rL1 22 (.tmp 17) 0 (hS44.blk 0 rfl) ?_
     refine sR 1 (iR p8_9 4 5::.code p8_10::td9) ?_
     obtain ⟨g59,hp60⟩:=ite_some hp58
     obtain ⟨b61,p62,cs65,hA63,hr66,hl67,hc64⟩:=y6.at_ g59.1 g59.2
     obtain ⟨A68,c69,rfl,hs70⟩:=hr66
     refine r_indexAddr (c:=p8_9) (i:=4) (d:=(some 20)) (ty:=0) (t:=22) (e:=37) (n:=a0.Next.length) (cp:=y1) (sz:=1) (kk:=.i64) (x:=(.tmp 18)) (y:=(.tmp 19)) (b:=b61) (o':=p62) (j:=t42) (by kernel_rfl) (by kernel_rfl) (slv (by kernel_rfl) hA63) (by kernel_rfl) (by kernel_rfl) (by kernel_rfl) g59.1 g59.2 ?_
     refine rL1 37 (.tmp 20) 0 (hc64.cells hS44) ?_
     refine sR 7 (iR p8_12 1 6::td10) ?_
     refine rL1 22 (.tmp 24) 0 (hS44.blk 0 rfl) ?_
     refine sR 1 (iR p8_12 3 4::td10) ?_
     obtain ⟨g72,hp73⟩:=ite_some hp60
     obtain ⟨b74,p75,cs78,hA76,hr79,hl80,hc77⟩:=y6.at_ g72.1 g72.2
     obtain ⟨A81,c82,rfl,hs83⟩:=hr79
     refine r_indexAddr (c:=p8_12) (i:=3) (d:=(some 27)) (ty:=0) (t:=22) (e:=37) (n:=a0.Next.length) (cp:=y1) (sz:=1) (kk:=.i64) (x:=(.tmp 25)) (y:=(.tmp 26)) (b:=b74) (o':=p75) (j:=t42) (by kernel_rfl) (by kernel_rfl) (slv (by kernel_rfl) hA76) (by kernel_rfl) (by kernel_rfl) (by kernel_rfl) g72.1 g72.2 ?_
     refine rL1 37 (.tmp 27) 0 (hc77.cells hS44) ?_
     refine sI 2 (.inRegion (opsOf p8_12) []::td10) 30 hp73 (fun hp87 => ?_) fun hp90 => ?_
     ·refine sR 6 (.code p8_14::td9) ?_
      refine r_isret (c:=p8_14) (by kernel_rfl) ?_
      have hS88:=hS44.drop
      refine rR (.bool false) Try.func8 ?_
      cases hq52 _ (Option.some.inj hp87)
      exact hR _ _ ⟨rfl,hS88⟩
     refine sR 9 td3 ?_
     refine sR 1 td4 ?_
     exact rF _ (ih49 (IntKind.i64.wrap (t41 + ((gt a0.Next t42).length : Int))) (IntKind.i64.wrap (t42 + 1)) _ hp90 he47 _ _ hS44)
    refine sR 4 td1 ?_
    exact rF _ (J12 t41 ((Option.some.inj hp91).trans he47) _ _ hS44)
   refine sR 7 td1 ?_
   exact rF _ (J12 t41 ((Option.some.inj hp92).trans he47) _ _ hS44)
  exact rF _ (L51 0 0 _ hv6 rfl _ _ hS3)

noncomputable def cd13 (p : List Nat) : Code := sub (bodyOf Try.f13) p
def weirlaw14_name.f (a0 : Int) : Option ByteArray :=
  (if (⟨#[115]⟩ : ByteArray).size + (ofBytes ([(IntKind.u8.wrap (shrI .i64 a0 8)),(IntKind.u8.wrap a0)] : List Int)).size ≤ 9223372036854775807 then some (((⟨#[115]⟩ : ByteArray) ++ (ofBytes ([(IntKind.u8.wrap (shrI .i64 a0 8)),(IntKind.u8.wrap a0)] : List Int)))) else none)
theorem weirlaw14_name.ok {a0 : Int} {q0 : ByteArray} (hp0 : weirlaw14_name.f a0 = some q0) (hS0 : St w0 Z (fs) w) :
    Calls Try.prog 13 #[.int .i64 a0] w (fun e w' => e = .returned (.string q0) ∧ St w0 Z (fs) w'):=by
  refine calls_abs ?_; intro R hR
  unfold weirlaw14_name.f at hp0
  refine calls_of_runs (fn:=Try.f13) (c:=cd13 []) Try.func13 (by kernel_rfl) (al:=[.int .i64 a0]) rfl (n:=10) rfl ?_
  refine sR 11 [iR (cd13 [1,0]) 5 4,.code (cd13 [1,1])] ?_
  refine r_lit (c:=(cd13 [1,0])) (i:=5) (d:=(some 8)) (ty:=104) (t:=104) (e:=5) (sz:=1) (n:=2) (parts:=#[(0,(.tmp 5)),(1,(.tmp 7))]) (vs:=[(0,.int .u8 (IntKind.u8.wrap (shrI .i64 a0 8))),(1,.int .u8 (IntKind.u8.wrap a0))]) (z:=zeroOf Try.prog 5) (cs':=([(IntKind.u8.wrap (shrI .i64 a0 8)),(IntKind.u8.wrap a0)] : List Int).flatMap (encI .u8)) hS0 (by kernel_rfl) (by kernel_rfl) (by kernel_rfl) (by kernel_rfl) (by kernel_rfl) (by decide) (by decide) (by kernel_rfl) rfl (Parts.cons (c:=[.int .u8 (IntKind.u8.wrap (shrI .i64 a0 8))]) (by kernel_rfl) rfl (Parts.cons (c:=[.int .u8 (IntKind.u8.wrap a0)]) (by kernel_rfl) rfl Parts.nil)) rfl ?_
  intro b2 w3 hS4
  refine rV (.convert 104 9 (.tmp 8)) (.string (ofBytes ([(IntKind.u8.wrap (shrI .i64 a0 8)),(IntKind.u8.wrap a0)] : List Int))) (fun o ho _ => x_bytesStr (e:=5) (A:=(some ⟨b2,0,none⟩)) (c:=2) (by kernel_rfl) (src_row (hS4.row 0 rfl) (by omega) (len_encI .u8)) (by kernel_rfl) (by kernel_rfl) (by kernel_rfl) ho) ?_
  obtain ⟨g5,hp6⟩:=ite_some hp0
  refine rV (.binOp .add 9 (.const (.string (⟨#[115]⟩ : ByteArray))) (.tmp 9) 9) (.string ((⟨#[115]⟩ : ByteArray) ++ (ofBytes ([(IntKind.u8.wrap (shrI .i64 a0 8)),(IntKind.u8.wrap a0)] : List Int)))) (fun o ho _ => x_concat (by kernel_rfl) (by kernel_rfl) g5 ho) ?_
  refine sR 2 [.code (cd13 [1,1])] ?_
  have hS7:=hS4.drop
  refine rR (.string ((⟨#[115]⟩ : ByteArray) ++ (ofBytes ([(IntKind.u8.wrap (shrI .i64 a0 8)),(IntKind.u8.wrap a0)] : List Int)))) Try.func13 ?_
  cases Option.some.inj hp6
  exact hR _ _ ⟨rfl,hS7⟩

noncomputable def cd9 (p : List Nat) : Code := sub (bodyOf Try.f9) p
abbrev p9_2:=cd9 [1,0]
def weirlaw14_Net__machine.f (a0 : weirlaw14_Net) : Option (ByteArray × (List (ByteArray × Int)) × (List (ByteArray × Int)) × (List (ByteArray × Int)) × Bool × weirlaw14_Net) :=
  (weirlaw14_name.f a0.Start >>= (fun t34 => some ((t34,([] : List (ByteArray × Int)),([] : List (ByteArray × Int)),([] : List (ByteArray × Int)),false,a0))))
theorem weirlaw14_Net__machine.ok {a0 : weirlaw14_Net} {y0 : Option Addr} {y1 : Nat} {y2 : Option Addr} {y3 : Nat} {y4 : Option Addr} {y5 : Nat} {q0 : ByteArray} {q1 q2 q3 : List (ByteArray × Int)} {q4 : Bool} {q5 : weirlaw14_Net} (hp0 : weirlaw14_Net__machine.f a0 = some (q0,q1,q2,q3,q4,q5)) (hS0 : St w0 Z (fs) w) (y6 : SlZ (repL (flat (encI .i64)) 1) 1 Z y0 y1 a0.Next) (y7 : SlZ (flat encB) 1 Z y2 y3 a0.End) (y8 : SlZ (flat (encI .i64)) 1 Z y4 y5 a0.Value) :
    Calls Try.prog 9 #[.agg #[.slice y0 a0.Next.length y1,.slice y2 a0.End.length y3,.slice y4 a0.Value.length y5,.int .i64 a0.Start]] w (fun e w' => ∃ (Qb0 : Nat) (Qb1 : Nat) (Qb2 : Nat) (Qb3 : Nat) (Qb4 : Nat) (Qb5 : Nat) (QA6 : Option Addr) (Qc6 : Nat) (QA8 : Option Addr) (Qc8 : Nat) (QA10 : Option Addr) (Qc10 : Nat),e = .returned (.tuple #[.agg #[.string q0,.func (.func 28) #[] #[.pointer (some ⟨Qb0,0,none⟩),.pointer (some ⟨Qb5,0,none⟩)],.func (.func 31) #[] #[.pointer (some ⟨Qb5,0,none⟩),.pointer (some ⟨Qb0,0,none⟩)],.func (.func 32) #[] #[.pointer (some ⟨Qb0,0,none⟩),.pointer (some ⟨Qb5,0,none⟩)]],.pointer (some ⟨Qb1,0,none⟩)]) ∧ St w0 Z (xblk Qb0 33 ([.pointer (some ⟨Qb1,0,none⟩)])::xblk Qb1 49 ([.map (some Qb2),.map (some Qb3),.map (some Qb4),.bool q4])::xmap Qb2 (q1.map (kv Value.string (Value.int .i64)))::xmap Qb3 (q2.map (kv Value.string (Value.int .i64)))::xmap Qb4 (q3.map (kv Value.string (Value.int .i64)))::xblk Qb5 26 ([.slice QA6 q5.Next.length Qc6,.slice QA8 q5.End.length Qc8,.slice QA10 q5.Value.length Qc10,.int .i64 q5.Start])::fs) w' ∧ SlZ (repL (flat (encI .i64)) 1) 1 Z QA6 Qc6 q5.Next ∧ SlZ (flat encB) 1 Z QA8 Qc8 q5.End ∧ SlZ (flat (encI .i64)) 1 Z QA10 Qc10 q5.Value):=by
  refine calls_abs ?_; intro R hR
  unfold weirlaw14_Net__machine.f at hp0
  refine calls_of_runs (fn:=Try.f9) (c:=cd9 []) Try.func9 (by kernel_rfl) (al:=[.agg #[.slice y0 a0.Next.length y1,.slice y2 a0.End.length y3,.slice y4 a0.Value.length y5,.int .i64 a0.Start]]) rfl (n:=22) rfl ?_
  refine sR 2 [.inRegion (opsOf (cd9 [0])) [0,1,2],.code (cd9 [1])] ?_
  refine r_box (c:=(cd9 [0])) (i:=0) (d:=(some 1)) (ty:=0) (x:=(.tmp 0)) (v:=.agg #[.slice y0 a0.Next.length y1,.slice y2 a0.End.length y3,.slice y4 a0.Value.length y5,.int .i64 a0.Start]) (t:=26) (cs:=[.slice y0 a0.Next.length y1,.slice y2 a0.End.length y3,.slice y4 a0.Value.length y5,.int .i64 a0.Start]) hS0 (by kernel_rfl) (by kernel_rfl) (by kernel_rfl) (by kernel_rfl) ?_
  intro b1 w2 hS3
  refine rA 32 (.agg #[.string (⟨#[]⟩ : ByteArray),.nilFunc,.nilFunc,.nilFunc]) [.string (⟨#[]⟩ : ByteArray),.nilFunc,.nilFunc,.nilFunc] hS3 ?_
  intro b5 w6 hS7
  refine sR 4 [iR p9_2 0 7,.code (cd9 [1,1])] ?_
  refine r_makeMap (c:=p9_2) (i:=0) (d:=(some 6)) (ty:=41) (t:=41) hS7 (by kernel_rfl) (by kernel_rfl) ?_
  intro b9 w10 hS11
  have hS13 : St w0 Z (xmap b9 (([] : List (ByteArray × Int)).map (kv Value.string (Value.int .i64)))::xblk b5 32 ([.string (⟨#[]⟩ : ByteArray),.nilFunc,.nilFunc,.nilFunc])::xblk b1 26 ([.slice y0 a0.Next.length y1,.slice y2 a0.End.length y3,.slice y4 a0.Value.length y5,.int .i64 a0.Start])::fs) w10:=hS11
  refine r_makeMap (c:=p9_2) (i:=1) (d:=(some 7)) (ty:=41) (t:=41) hS13 (by kernel_rfl) (by kernel_rfl) ?_
  intro b14 w15 hS16
  have hS18 : St w0 Z (xmap b14 (([] : List (ByteArray × Int)).map (kv Value.string (Value.int .i64)))::xmap b9 (([] : List (ByteArray × Int)).map (kv Value.string (Value.int .i64)))::xblk b5 32 ([.string (⟨#[]⟩ : ByteArray),.nilFunc,.nilFunc,.nilFunc])::xblk b1 26 ([.slice y0 a0.Next.length y1,.slice y2 a0.End.length y3,.slice y4 a0.Value.length y5,.int .i64 a0.Start])::fs) w15:=hS16
  refine r_makeMap (c:=p9_2) (i:=2) (d:=(some 8)) (ty:=41) (t:=41) hS18 (by kernel_rfl) (by kernel_rfl) ?_
  intro b19 w20 hS21
  have hS23 : St w0 Z (xmap b19 (([] : List (ByteArray × Int)).map (kv Value.string (Value.int .i64)))::xmap b14 (([] : List (ByteArray × Int)).map (kv Value.string (Value.int .i64)))::xmap b9 (([] : List (ByteArray × Int)).map (kv Value.string (Value.int .i64)))::xblk b5 32 ([.string (⟨#[]⟩ : ByteArray),.nilFunc,.nilFunc,.nilFunc])::xblk b1 26 ([.slice y0 a0.Next.length y1,.slice y2 a0.End.length y3,.slice y4 a0.Value.length y5,.int .i64 a0.Start])::fs) w20:=hS21
  refine sR 1 [.inRegion (opsOf p9_2) [4,5,6],.code (cd9 [1,1])] ?_
  refine r_box (c:=p9_2) (i:=4) (d:=(some 10)) (ty:=33) (x:=(.tmp 9)) (v:=.agg #[.map (some b9),.map (some b14),.map (some b19),.bool false]) (t:=49) (cs:=[.map (some b9),.map (some b14),.map (some b19),.bool false]) hS23 (by kernel_rfl) (by kernel_rfl) (by kernel_rfl) (by kernel_rfl) ?_
  intro b24 w25 hS26
  refine rA 33 (.pointer none) [.pointer none] hS26 ?_
  intro b28 w29 hS30
  refine rS 33 (.tmp 4) (.tmp 10) 0 (.pointer (some ⟨b24,0,none⟩)) [.pointer (some ⟨b24,0,none⟩)] [.pointer (some ⟨b24,0,none⟩)] hS30 ?_
  intro w32 hS33
  refine sR 4 [iR (cd9 [1,1,0]) 1 5,.code (cd9 [1,1,1])] ?_
  refine rL1 3 (.tmp 11) 3 (hS33.blk 6 rfl) ?_
  obtain ⟨t34,hr35,hp36⟩:=bind_some' hp0
  refine rC (weirlaw14_name.ok hr35 hS33) ?_
  rintro _ w37 ⟨rfl,hS38⟩
  refine ⟨_,rfl,?_⟩
  refine sR 1 [.inRegion (opsOf (cd9 [1,1,0])) [4,5],.code (cd9 [1,1,1])] ?_
  refine rA 32 (.agg #[.string (⟨#[]⟩ : ByteArray),.nilFunc,.nilFunc,.nilFunc]) [.string (⟨#[]⟩ : ByteArray),.nilFunc,.nilFunc,.nilFunc] hS38 ?_
  intro b39 w40 hS41
  refine rS 32 (.tmp 5) (.tmp 14) 0 (.agg #[.string t34,.nilFunc,.nilFunc,.nilFunc]) [.string t34,.nilFunc,.nilFunc,.nilFunc] [.string t34,.nilFunc,.nilFunc,.nilFunc] hS41 ?_
  intro w43 hS44
  refine sR 5 [.inRegion (opsOf (cd9 [1,1,1,0])) [2],.code (cd9 [1,1,1,1])] ?_
  refine rS 28 (.tmp 16) (.tmp 15) 1 (.func (.func 28) #[] #[.pointer (some ⟨b28,0,none⟩),.pointer (some ⟨b1,0,none⟩)]) [.func (.func 28) #[] #[.pointer (some ⟨b28,0,none⟩),.pointer (some ⟨b1,0,none⟩)]] [.string t34,.func (.func 28) #[] #[.pointer (some ⟨b28,0,none⟩),.pointer (some ⟨b1,0,none⟩)],.nilFunc,.nilFunc] hS44 ?_
  intro w45 hS46
  refine sR 5 [.inRegion (opsOf (cd9 [1,1,1,1,0])) [2],.code (cd9 [1,1,1,1,1])] ?_
  refine rS 29 (.tmp 18) (.tmp 17) 2 (.func (.func 31) #[] #[.pointer (some ⟨b1,0,none⟩),.pointer (some ⟨b28,0,none⟩)]) [.func (.func 31) #[] #[.pointer (some ⟨b1,0,none⟩),.pointer (some ⟨b28,0,none⟩)]] [.string t34,.func (.func 28) #[] #[.pointer (some ⟨b28,0,none⟩),.pointer (some ⟨b1,0,none⟩)],.func (.func 31) #[] #[.pointer (some ⟨b1,0,none⟩),.pointer (some ⟨b28,0,none⟩)],.nilFunc] hS46 ?_
  intro w47 hS48
  refine sR 5 [.inRegion (opsOf (cd9 [1,1,1,1,1,0])) [2],.code (cd9 [1,1,1,1,1,1])] ?_
  refine rS 30 (.tmp 20) (.tmp 19) 3 (.func (.func 32) #[] #[.pointer (some ⟨b28,0,none⟩),.pointer (some ⟨b1,0,none⟩)]) [.func (.func 32) #[] #[.pointer (some ⟨b28,0,none⟩),.pointer (some ⟨b1,0,none⟩)]] [.string t34,.func (.func 28) #[] #[.pointer (some ⟨b28,0,none⟩),.pointer (some ⟨b1,0,none⟩)],.func (.func 31) #[] #[.pointer (some ⟨b1,0,none⟩),.pointer (some ⟨b28,0,none⟩)],.func (.func 32) #[] #[.pointer (some ⟨b28,0,none⟩),.pointer (some ⟨b1,0,none⟩)]] hS48 ?_
  intro w49 hS50
  refine sR 2 [.code (cd9 [1,1,1,1,1,1,0]),.code (cd9 [1,1,1,1,1,1,1])] ?_
  have hS51:=hS50.pick6
  have hS52:=hS51.pick2
  have hS53:=hS52.pick2
  generalize hg55 : (xblk b24 49 ([.map (some b9),.map (some b14),.map (some b19),.bool false])::xmap b19 (([] : List (ByteArray × Int)).map (kv Value.string (Value.int .i64)))::xmap b14 (([] : List (ByteArray × Int)).map (kv Value.string (Value.int .i64)))::xmap b9 (([] : List (ByteArray × Int)).map (kv Value.string (Value.int .i64)))::xblk b1 26 ([.slice y0 a0.Next.length y1,.slice y2 a0.End.length y3,.slice y4 a0.Value.length y5,.int .i64 a0.Start])::fs) = gs54 at hS53
  have hS56:=hS53.pick2
  refine r_drawnF (X:=Unit) (c:=(cd9 [1,1,1,1,1,1,0])) (id:=6) (C0:=fun w' => St w0 Z (xblk b5 32 ([.string (⟨#[]⟩ : ByteArray),.nilFunc,.nilFunc,.nilFunc])::xblk b39 32 ([.string t34,.func (.func 28) #[] #[.pointer (some ⟨b28,0,none⟩),.pointer (some ⟨b1,0,none⟩)],.func (.func 31) #[] #[.pointer (some ⟨b1,0,none⟩),.pointer (some ⟨b28,0,none⟩)],.func (.func 32) #[] #[.pointer (some ⟨b28,0,none⟩),.pointer (some ⟨b1,0,none⟩)]])::xblk b28 33 ([.pointer (some ⟨b24,0,none⟩)])::gs54) w') (C1:=fun _ w' => St w0 Z (xblk b5 32 ([.string t34,.func (.func 28) #[] #[.pointer (some ⟨b28,0,none⟩),.pointer (some ⟨b1,0,none⟩)],.func (.func 31) #[] #[.pointer (some ⟨b1,0,none⟩),.pointer (some ⟨b28,0,none⟩)],.func (.func 32) #[] #[.pointer (some ⟨b28,0,none⟩),.pointer (some ⟨b1,0,none⟩)]])::xblk b39 32 ([.string t34,.func (.func 28) #[] #[.pointer (some ⟨b28,0,none⟩),.pointer (some ⟨b1,0,none⟩)],.func (.func 31) #[] #[.pointer (some ⟨b1,0,none⟩),.pointer (some ⟨b28,0,none⟩)],.func (.func 32) #[] #[.pointer (some ⟨b28,0,none⟩),.pointer (some ⟨b1,0,none⟩)]])::xblk b28 33 ([.pointer (some ⟨b24,0,none⟩)])::gs54) w') (vs:=[.agg #[.string t34,.func (.func 28) #[] #[.pointer (some ⟨b28,0,none⟩),.pointer (some ⟨b1,0,none⟩)],.func (.func 31) #[] #[.pointer (some ⟨b1,0,none⟩),.pointer (some ⟨b28,0,none⟩)],.func (.func 32) #[] #[.pointer (some ⟨b28,0,none⟩),.pointer (some ⟨b1,0,none⟩)]],.pointer (some ⟨b24,0,none⟩),undef,undef]) (vx:=fun _ => [.agg #[.string t34,.func (.func 28) #[] #[.pointer (some ⟨b28,0,none⟩),.pointer (some ⟨b1,0,none⟩)],.func (.func 31) #[] #[.pointer (some ⟨b1,0,none⟩),.pointer (some ⟨b28,0,none⟩)],.func (.func 32) #[] #[.pointer (some ⟨b28,0,none⟩),.pointer (some ⟨b1,0,none⟩)]],.pointer (some ⟨b24,0,none⟩),undef,.pointer (some ⟨b24,0,none⟩)]) 2 4 [2,3] [] (by kernel_rfl) (by kernel_rfl) (by kernel_rfl) (by decide) (by kernel_rfl) (by kernel_rfl) (by kernel_rfl) rfl ?_ (fun _ => ⟨rfl,rfl⟩) hS56.drew ?_ ?_ ?_ ?_ ?_
  ·intro _u i hi hd
   match i,hi,hd with
   | 0,_,_ => exact rfl
   | 1,_,_ => exact rfl
   | 2,_,hd => exact absurd hd (by decide)
   | 3,_,hd => exact absurd hd (by decide)
   | i + 4,hi,_ => exact absurd hi (by omega)
  ·intro i hi hd w hC
   match i,hi,hd with
   | 0,_,_ => exact does_run (x_load (t:=32) (x:=(.tmp 5)) (p:=⟨b39,0,none⟩) (v:=.agg #[.string t34,.func (.func 28) #[] #[.pointer (some ⟨b28,0,none⟩),.pointer (some ⟨b1,0,none⟩)],.func (.func 31) #[] #[.pointer (some ⟨b1,0,none⟩),.pointer (some ⟨b28,0,none⟩)],.func (.func 32) #[] #[.pointer (some ⟨b28,0,none⟩),.pointer (some ⟨b1,0,none⟩)]]) (by kernel_rfl) (loads_agg (hC.blk 1 rfl) (by kernel_rfl) (by kernel_rfl)) (by kernel_rfl)) rfl hC
   | 1,_,_ => exact does_run (x_load (t:=33) (x:=(.tmp 4)) (p:=⟨b28,0,none⟩) (v:=.pointer (some ⟨b24,0,none⟩)) (by kernel_rfl) (loads_at 0 (hC.blk 2 rfl) (by kernel_rfl) (by kernel_rfl)) (by kernel_rfl)) rfl hC
   | 2,_,hd => exact absurd hd (by decide)
   | 3,_,hd => exact absurd hd (by decide)
   | i + 4,hi,_ => exact absurd hi (by omega)
  ·intro i hi hd _u w hC
   match i,hi,hd with
   | 0,_,_ => exact does_run (x_load (t:=32) (x:=(.tmp 5)) (p:=⟨b39,0,none⟩) (v:=.agg #[.string t34,.func (.func 28) #[] #[.pointer (some ⟨b28,0,none⟩),.pointer (some ⟨b1,0,none⟩)],.func (.func 31) #[] #[.pointer (some ⟨b1,0,none⟩),.pointer (some ⟨b28,0,none⟩)],.func (.func 32) #[] #[.pointer (some ⟨b28,0,none⟩),.pointer (some ⟨b1,0,none⟩)]]) (by kernel_rfl) (loads_agg (hC.blk 1 rfl) (by kernel_rfl) (by kernel_rfl)) (by kernel_rfl)) rfl hC
   | 1,_,_ => exact does_run (x_load (t:=33) (x:=(.tmp 4)) (p:=⟨b28,0,none⟩) (v:=.pointer (some ⟨b24,0,none⟩)) (by kernel_rfl) (loads_at 0 (hC.blk 2 rfl) (by kernel_rfl) (by kernel_rfl)) (by kernel_rfl)) rfl hC
   | 2,_,hd => exact absurd hd (by decide)
   | 3,_,hd => exact absurd hd (by decide)
   | i + 4,hi,_ => exact absurd hi (by omega)
  ·intro w hC
   exact does_store (ux:=()) (t:=32) (x:=(.tmp 2)) (y:=(.tmp 21)) (b:=b5) (o:=0) (e:=32) (cs:=[.string (⟨#[]⟩ : ByteArray),.nilFunc,.nilFunc,.nilFunc]) (v:=.agg #[.string t34,.func (.func 28) #[] #[.pointer (some ⟨b28,0,none⟩),.pointer (some ⟨b1,0,none⟩)],.func (.func 31) #[] #[.pointer (some ⟨b1,0,none⟩),.pointer (some ⟨b28,0,none⟩)],.func (.func 32) #[] #[.pointer (some ⟨b28,0,none⟩),.pointer (some ⟨b1,0,none⟩)]]) (vs:=[.string t34,.func (.func 28) #[] #[.pointer (some ⟨b28,0,none⟩),.pointer (some ⟨b1,0,none⟩)],.func (.func 31) #[] #[.pointer (some ⟨b1,0,none⟩),.pointer (some ⟨b28,0,none⟩)],.func (.func 32) #[] #[.pointer (some ⟨b28,0,none⟩),.pointer (some ⟨b1,0,none⟩)]]) (cs':=[.string t34,.func (.func 28) #[] #[.pointer (some ⟨b28,0,none⟩),.pointer (some ⟨b1,0,none⟩)],.func (.func 31) #[] #[.pointer (some ⟨b1,0,none⟩),.pointer (some ⟨b28,0,none⟩)],.func (.func 32) #[] #[.pointer (some ⟨b28,0,none⟩),.pointer (some ⟨b1,0,none⟩)]]) hC (by kernel_rfl) (by kernel_rfl) (by kernel_rfl) (by kernel_rfl) (by kernel_rfl) (by kernel_rfl) (by kernel_rfl) (Nat.le_of_ble_eq_true (by kernel_rfl)) (by kernel_rfl) (fun _ h => h)
  ·intro i hi hd hne _u w hC
   match i,hi,hd,hne with
   | 0,_,hd,_ => exact absurd hd (by decide)
   | 1,_,hd,_ => exact absurd hd (by decide)
   | 2,_,_,hne => exact absurd rfl hne
   | 3,_,_,_ => exact does_pure (v:=.pointer (some ⟨b24,0,none⟩)) (by kernel_rfl) rfl hC
   | i + 4,hi,_,_ => exact absurd hi (by omega)
  intro _u w57 hS58
  subst hg55
  have hS59:=hS58.drop
  have hS60:=hS59.drop
  have hS61:=hS60.pick5
  have hS62:=hS61.pick3
  have hS63:=hS62.pick4
  have hS64:=hS63.pick5
  have hS65:=hS64.pick5
  have hS66:=hS65.pick5
  refine rRc (.tuple #[.agg #[.string t34,.func (.func 28) #[] #[.pointer (some ⟨b28,0,none⟩),.pointer (some ⟨b1,0,none⟩)],.func (.func 31) #[] #[.pointer (some ⟨b1,0,none⟩),.pointer (some ⟨b28,0,none⟩)],.func (.func 32) #[] #[.pointer (some ⟨b28,0,none⟩),.pointer (some ⟨b1,0,none⟩)]],.pointer (some ⟨b24,0,none⟩)]) (.ca 2 32 (hS58.blk 0 rfl) (.tm 3 .nil)) Try.func9 ?_
  cases Option.some.inj hp36
  exact hR _ _ ⟨b28,b24,b9,b14,b19,b1,y0,y1,y2,y3,y4,y5,rfl,hS66,y6,y7,y8⟩

noncomputable def cd35 (p : List Nat) : Code := sub (bodyOf Try.f35) p
def explore_walk.f (y9 : ByteArray) (a0_1c0vv_0m a0_1c0vv_1m a0_1c0vv_2m : List (ByteArray × Int)) (a0_1c0vv_3 : Bool) (a0_1c1v : weirlaw14_Net) (a1c0v_0 : List ByteArray) (a1c0v_1m : List (ByteArray × (List explore_edge))) : Option ByteArray :=
  some (y9)
theorem explore_walk.ok {y9 : ByteArray} {a0_1c0vv_0m a0_1c0vv_1m a0_1c0vv_2m : List (ByteArray × Int)} {a0_1c0vv_3 : Bool} {a0_1c1v : weirlaw14_Net} {a1c0v_0 : List ByteArray} {a1c0v_1m : List (ByteArray × (List explore_edge))} {ba0_1c0 ba0_1c0v : Nat} {ba0_1c0vv_0 ba0_1c0vv_1 : Nat} {ba0_1c0vv_2 ba0_1c1 : Nat} {Aa0_1c1v_0 : Option Addr} {ca0_1c1v_0 : Nat} {Aa0_1c1v_1 : Option Addr} {ca0_1c1v_1 : Nat} {Aa0_1c1v_2 : Option Addr} {ca0_1c1v_2 ba1c0 : Nat} {Aa1c0v_0 : Option Addr} {ca1c0v_0 ba1c0v_1 : Nat} {ma1c0v_1 : List (ByteArray × Hh × List explore_edge)} {q0 : ByteArray} (hp0 : explore_walk.f y9 a0_1c0vv_0m a0_1c0vv_1m a0_1c0vv_2m a0_1c0vv_3 a0_1c1v a1c0v_0 a1c0v_1m = some q0) (hS0 : St w0 Z (xblk ba0_1c0 33 ([.pointer (some ⟨ba0_1c0v,0,none⟩)])::xblk ba0_1c0v 49 ([.map (some ba0_1c0vv_0),.map (some ba0_1c0vv_1),.map (some ba0_1c0vv_2),.bool a0_1c0vv_3])::xmap ba0_1c0vv_0 (a0_1c0vv_0m.map (kv Value.string (Value.int .i64)))::xmap ba0_1c0vv_1 (a0_1c0vv_1m.map (kv Value.string (Value.int .i64)))::xmap ba0_1c0vv_2 (a0_1c0vv_2m.map (kv Value.string (Value.int .i64)))::xblk ba0_1c1 26 ([.slice Aa0_1c1v_0 a0_1c1v.Next.length ca0_1c1v_0,.slice Aa0_1c1v_1 a0_1c1v.End.length ca0_1c1v_1,.slice Aa0_1c1v_2 a0_1c1v.Value.length ca0_1c1v_2,.int .i64 a0_1c1v.Start])::xblk ba1c0 109 ([.slice Aa1c0v_0 a1c0v_0.length ca1c0v_0,.map (some ba1c0v_1),.map none])::xmap ba1c0v_1 (ma1c0v_1.map (kv Value.string eVH))::fs) w) (ha0_1c1v_0 : SlZ (repL (flat (encI .i64)) 1) 1 Z Aa0_1c1v_0 ca0_1c1v_0 a0_1c1v.Next) (ha0_1c1v_1 : SlZ (flat encB) 1 Z Aa0_1c1v_1 ca0_1c1v_1 a0_1c1v.End) (ha0_1c1v_2 : SlZ (flat (encI .i64)) 1 Z Aa0_1c1v_2 ca0_1c1v_2 a0_1c1v.Value) (ha1c0v_0 : SlZ (flat encS) 1 Z Aa1c0v_0 ca1c0v_0 a1c0v_0) (hma1c0v_1 : MZ enc_explore_edge 4 Z ma1c0v_1 a1c0v_1m) :
    Calls Try.prog 35 #[.agg #[.string y9,.func (.func 28) #[] #[.pointer (some ⟨ba0_1c0,0,none⟩),.pointer (some ⟨ba0_1c1,0,none⟩)],.func (.func 31) #[] #[.pointer (some ⟨ba0_1c1,0,none⟩),.pointer (some ⟨ba0_1c0,0,none⟩)],.func (.func 32) #[] #[.pointer (some ⟨ba0_1c0,0,none⟩),.pointer (some ⟨ba0_1c1,0,none⟩)]],.func (.func 47) #[] #[.pointer (some ⟨ba1c0,0,none⟩)]] w (fun e w' => ∃ (Qb0 : Nat) (Qb1 : Nat),e = .returned (.func (.func 44) #[] #[.pointer (some ⟨Qb0,0,none⟩),.pointer (some ⟨Qb1,0,none⟩)]) ∧ St w0 Z (xblk Qb0 32 ([.string q0,.func (.func 28) #[] #[.pointer (some ⟨ba0_1c0,0,none⟩),.pointer (some ⟨ba0_1c1,0,none⟩)],.func (.func 31) #[] #[.pointer (some ⟨ba0_1c1,0,none⟩),.pointer (some ⟨ba0_1c0,0,none⟩)],.func (.func 32) #[] #[.pointer (some ⟨ba0_1c0,0,none⟩),.pointer (some ⟨ba0_1c1,0,none⟩)]])::xblk Qb1 130 ([.func (.func 47) #[] #[.pointer (some ⟨ba1c0,0,none⟩)]])::xblk ba0_1c0 33 ([.pointer (some ⟨ba0_1c0v,0,none⟩)])::xblk ba0_1c0v 49 ([.map (some ba0_1c0vv_0),.map (some ba0_1c0vv_1),.map (some ba0_1c0vv_2),.bool a0_1c0vv_3])::xmap ba0_1c0vv_0 (a0_1c0vv_0m.map (kv Value.string (Value.int .i64)))::xmap ba0_1c0vv_1 (a0_1c0vv_1m.map (kv Value.string (Value.int .i64)))::xmap ba0_1c0vv_2 (a0_1c0vv_2m.map (kv Value.string (Value.int .i64)))::xblk ba0_1c1 26 ([.slice Aa0_1c1v_0 a0_1c1v.Next.length ca0_1c1v_0,.slice Aa0_1c1v_1 a0_1c1v.End.length ca0_1c1v_1,.slice Aa0_1c1v_2 a0_1c1v.Value.length ca0_1c1v_2,.int .i64 a0_1c1v.Start])::xblk ba1c0 109 ([.slice Aa1c0v_0 a1c0v_0.length ca1c0v_0,.map (some ba1c0v_1),.map none])::xmap ba1c0v_1 (ma1c0v_1.map (kv Value.string eVH))::fs) w'):=by
  refine calls_abs ?_; intro R hR
  unfold explore_walk.f at hp0
  refine calls_of_runs (fn:=Try.f35) (c:=cd35 []) Try.func35 (by kernel_rfl) (al:=[.agg #[.string y9,.func (.func 28) #[] #[.pointer (some ⟨ba0_1c0,0,none⟩),.pointer (some ⟨ba0_1c1,0,none⟩)],.func (.func 31) #[] #[.pointer (some ⟨ba0_1c1,0,none⟩),.pointer (some ⟨ba0_1c0,0,none⟩)],.func (.func 32) #[] #[.pointer (some ⟨ba0_1c0,0,none⟩),.pointer (some ⟨ba0_1c1,0,none⟩)]],.func (.func 47) #[] #[.pointer (some ⟨ba1c0,0,none⟩)]]) rfl (n:=4) rfl ?_
  refine sR 2 [.inRegion (opsOf (cd35 [0])) [0,1,2],.code (cd35 [1])] ?_
  refine r_box (c:=(cd35 [0])) (i:=0) (d:=(some 2)) (ty:=0) (x:=(.tmp 0)) (v:=.agg #[.string y9,.func (.func 28) #[] #[.pointer (some ⟨ba0_1c0,0,none⟩),.pointer (some ⟨ba0_1c1,0,none⟩)],.func (.func 31) #[] #[.pointer (some ⟨ba0_1c1,0,none⟩),.pointer (some ⟨ba0_1c0,0,none⟩)],.func (.func 32) #[] #[.pointer (some ⟨ba0_1c0,0,none⟩),.pointer (some ⟨ba0_1c1,0,none⟩)]]) (t:=32) (cs:=[.string y9,.func (.func 28) #[] #[.pointer (some ⟨ba0_1c0,0,none⟩),.pointer (some ⟨ba0_1c1,0,none⟩)],.func (.func 31) #[] #[.pointer (some ⟨ba0_1c1,0,none⟩),.pointer (some ⟨ba0_1c0,0,none⟩)],.func (.func 32) #[] #[.pointer (some ⟨ba0_1c0,0,none⟩),.pointer (some ⟨ba0_1c1,0,none⟩)]]) hS0 (by kernel_rfl) (by kernel_rfl) (by kernel_rfl) (by kernel_rfl) ?_
  intro b1 w2 hS3
  refine r_box (c:=(cd35 [0])) (i:=1) (d:=(some 3)) (ty:=0) (x:=(.tmp 1)) (v:=.func (.func 47) #[] #[.pointer (some ⟨ba1c0,0,none⟩)]) (t:=130) (cs:=[.func (.func 47) #[] #[.pointer (some ⟨ba1c0,0,none⟩)]]) hS3 (by kernel_rfl) (by kernel_rfl) (by kernel_rfl) (by kernel_rfl) ?_
  intro b5 w6 hS7
  refine sR 7 [.code (cd35 [1,1])] ?_
  have hS9:=hS7.pick9
  have hS10:=hS9.pick9
  have hS11:=hS10.pick9
  have hS12:=hS11.pick9
  have hS13:=hS12.pick9
  have hS14:=hS13.pick9
  have hS15:=hS14.pick9
  have hS16:=hS15.pick9
  have hS17:=hS16.pick8
  have hS18:=hS17.pick9
  refine rR (.func (.func 44) #[] #[.pointer (some ⟨b1,0,none⟩),.pointer (some ⟨b5,0,none⟩)]) Try.func35 ?_
  cases Option.some.inj hp0
  exact hR _ _ ⟨b1,b5,rfl,hS18⟩

noncomputable def cd38 (p : List Nat) : Code := sub (bodyOf Try.f38) p
abbrev p38_0:=cd38 [1,1,0,1,0,0]
abbrev p38_1:=cd38 [1,1,0,1,0,1]
abbrev p38_2:=cd38 [1,1,0,1,0,1,0,0,1,0,1]
abbrev p38_3:=cd38 [1,1,0,1,0,1,0,0,0]
abbrev p38_5:=cd38 [1,1,0,1,0,1,0,1]
abbrev td11:List Item:=[.inBlock 1]
abbrev td12:List Item:=.code p38_5::td11
abbrev td13:List Item:=.code (cd38 [1,1,0,1,0,1,0,0,1])::td12
def explore_all_r.f (a0 : ByteArray) (a1m : List (ByteArray × explore_visit)) (a2v3v : Int) (a2v5v : Bool) (a2v6v_1m : List (ByteArray × (List explore_edge))) : Option (Int × Bool × (List ByteArray)) :=
  (if (decide (0 ≥ a2v3v)) = true then some ((1,false,[])) else (if (([] : List ByteArray).length + ([a0] : List ByteArray).length) * 16 ≤ 140737488355328 then some ((0,a2v5v,(([] : List ByteArray) ++ ([a0] : List ByteArray)))) else none))
theorem explore_all_r.ok (a0 : ByteArray) (a1m : List (ByteArray × explore_visit)) (a2v3v : Int) (a2v5v : Bool) (a2v6v_1m : List (ByteArray × (List explore_edge))) (ba1 La2 Da2 : Nat) (la2 : List Value) (ba2v3 ba2v4 : Nat) (ba2v5 ba2v6 ba2v6v_1 : Nat) (ma2v6v_1 : List (ByteArray × Hh × List explore_edge)) (hS0 : St w0 Z (xmap ba1 (a1m.map (kv Value.string (fun v => Value.agg (enc_explore_visit v).toArray)))::xlp La2 38 (fill (mk 31 [(3,.pointer (some ⟨ba2v3,0,none⟩)),(4,.pointer (some ⟨ba2v4,0,none⟩)),(5,.pointer (some ⟨ba2v5,0,none⟩)),(6,.pointer (some ⟨ba2v6,0,none⟩))]) la2) #[14,15] p38_0 p38_1 Da2 [p38_2] 0::xblk ba2v3 3 ([.int .i64 a2v3v])::xblk ba2v4 109 ([.slice none 0 0,.map none,.map none])::xblk ba2v5 4 ([.bool a2v5v])::xblk ba2v6 109 ([.slice none 0 0,.map (some ba2v6v_1),.map none])::xmap ba2v6v_1 (ma2v6v_1.map (kv Value.string eVH))::fs) w) (hma2v6v_1 : MZ enc_explore_edge 4 Z ma2v6v_1 a2v6v_1m) {q0 : Int} {q1 : Bool} {q2 : List ByteArray} (hp0 : explore_all_r.f a0 a1m a2v3v a2v5v a2v6v_1m = some (q0,q1,q2)) :
    Rounds Try.prog La2 38 (fill (mk 31 [(3,.pointer (some ⟨ba2v3,0,none⟩)),(4,.pointer (some ⟨ba2v4,0,none⟩)),(5,.pointer (some ⟨ba2v5,0,none⟩)),(6,.pointer (some ⟨ba2v6,0,none⟩)),(14,.string a0),(15,.map (some ba1))]) la2).toArray p38_0 p38_1 w (fun e w' => ∃ (QA0 : Option Addr) (Qc0 : Nat) (Qv2 : Option Nat),e = .returned (.bool (decide (q0 = 0))) ∧ St w0 Z (xrow QA0 Qc0 9 1 (q2.flatMap encS)::xmap ba1 (a1m.map (kv Value.string (fun v => Value.agg (enc_explore_visit v).toArray)))::xlp La2 38 (fill (mk 31 [(3,.pointer (some ⟨ba2v3,0,none⟩)),(4,.pointer (some ⟨ba2v4,0,none⟩)),(5,.pointer (some ⟨ba2v5,0,none⟩)),(6,.pointer (some ⟨ba2v6,0,none⟩))]) la2) #[14,15] p38_0 p38_1 Da2 [p38_2] q0::xblk ba2v3 3 ([.int .i64 a2v3v])::xblk ba2v4 109 ([.slice none 0 0,.map none,.map none])::xblk ba2v5 4 ([.bool q1])::xblk ba2v6 109 ([.slice QA0 q2.length Qc0,.map (some ba2v6v_1),.map Qv2])::xmap ba2v6v_1 (ma2v6v_1.map (kv Value.string eVH))::fs) w'):=by
  refine rounds_abs ?_; intro R hR
  unfold explore_all_r.f at hp0
  refine rounds_of_runs ?_
  refine sR 7 [.beginRound,.code p38_1] ?_
  have hS1:=hS0.pick1
  refine r_begin hS1 ?_
  intro w2 hS3
  refine sR 5 (iR p38_3 1 4::td13) ?_
  refine rL1 36 (.tmp 16) 0 (hS3.blk 5 rfl) ?_
  refine sR 1 (.inRegion (opsOf p38_3) [3,4]::td13) ?_
  refine rL1 3 (.tmp 3) 0 (hS3.blk 2 rfl) ?_
  refine sI 1 (.inRegion (opsOf p38_3) []::td13) 20 hp0 (fun hp6 => ?_) fun hp28 => ?_
  ·refine sR 5 (.inRegion (opsOf (cd38 [1,1,0,1,0,1,0,0,1,0,0])) [1,2]::.code p38_2::td12) ?_
   have hS7:=hS3.pick3
   refine rS 109 (.tmp 4) (.tmp 21) 0 (.agg #[.slice none 0 0,.map none,.map none]) [.slice none 0 0,.map none,.map none] [.slice none 0 0,.map none,.map none] hS7 ?_
   intro w8 hS9
   have hS10:=hS9.pick4
   refine rS 4 (.tmp 5) (.const (.bool false)) 0 (.bool false) [.bool false] [.bool false] hS10 ?_
   intro w11 hS12
   refine sR 1 (.code p38_2::td12) ?_
   have hS13:=hS12.pick2
   refine r_rret hS13 [p38_2] 0 (by kernel_rfl) ?_
   intro w14 hS15
   have hS16 : St w0 Z (xlp La2 38 (fill (mk 31 [(3,.pointer (some ⟨ba2v3,0,none⟩)),(4,.pointer (some ⟨ba2v4,0,none⟩)),(5,.pointer (some ⟨ba2v5,0,none⟩)),(6,.pointer (some ⟨ba2v6,0,none⟩))]) la2) #[14,15] p38_0 p38_1 Da2 [p38_2] 1::xblk ba2v5 4 ([.bool false])::xblk ba2v4 109 ([.slice none 0 0,.map none,.map none])::xmap ba1 (a1m.map (kv Value.string (fun v => Value.agg (enc_explore_visit v).toArray)))::xblk ba2v3 3 ([.int .i64 a2v3v])::xblk ba2v6 109 ([.slice none 0 0,.map (some ba2v6v_1),.map none])::xmap ba2v6v_1 (ma2v6v_1.map (kv Value.string eVH))::fs) w14:=hS15
   have hS18:=hS16.nilrow none 9 1
   have hS19:=hS18.pick7
   have hS20:=hS19.pick7
   have hS21:=hS20.pick4
   have hS22:=hS21.pick5
   have hS23:=hS22.pick7
   have hS24:=hS23.pick6
   have hS25:=hS24.pick7
   have hS26:=hS25.pick7
   cases Option.some.inj hp6
   exact hR _ _ ⟨none,0,none,rfl,hS26⟩
  refine sR 5 (iR p38_5 1 9::td11) ?_
  refine rL1 36 (.tmp 22) 0 (hS3.blk 5 rfl) ?_
  refine sR 1 (iR p38_5 3 7::td11) ?_
  refine r_lit (c:=p38_5) (i:=3) (d:=(some 25)) (ty:=36) (t:=36) (e:=9) (sz:=1) (n:=1) (parts:=#[(0,(.tmp 24))]) (vs:=[(0,.string a0)]) (z:=zeroOf Try.prog 9) (cs':=([a0] : List ByteArray).flatMap encS) hS3 (by kernel_rfl) (by kernel_rfl) (by kernel_rfl) (by kernel_rfl) (by kernel_rfl) (by decide) (by decide) (by kernel_rfl) rfl (Parts.cons (c:=[.string a0]) (by kernel_rfl) rfl Parts.nil) rfl ?_
  intro b30 w31 hS32
  have hS34:=hS32.nilrow none 9 1
  obtain ⟨g35,hp36⟩:=ite_some hp28
  refine r_append (c:=p38_5) (i:=4) (d:=(some 26)) (ty:=36) (enc:=encS) (e:=9) (u:=9) (t:=36) (t2:=36) (sz:=1) (cp:=0) (A:=none) (bytes:=16) (xs:=([] : List ByteArray)) (ys:=([a0] : List ByteArray)) (s:=(.tmp 23)) (x:=(.tmp 25)) (xv:=.slice (some ⟨b30,0,none⟩) ([a0] : List ByteArray).length 1) (info:=infoOf Try.prog 9) (z:=zeroOf Try.prog 9) (ycs:=([a0] : List ByteArray).flatMap encS) hS34 (by kernel_rfl) (by kernel_rfl) (by kernel_rfl) (by kernel_rfl) (by kernel_rfl) (.inl (by kernel_rfl)) (by kernel_rfl) (by kernel_rfl) (by kernel_rfl) (by kernel_rfl) (by kernel_rfl) (by omega) len_encS one_encS (src_row (hS34.row 1 rfl) (by omega) len_encS) rfl g35 (by omega) ?_
  intro A37 c38 w39 hS40
  refine sR 2 (.inRegion (opsOf p38_5) [7,8,9]::td11) ?_
  have hS42:=hS40.pick7
  refine rS 36 (.tmp 28) (.tmp 26) 0 (.slice A37 (([] : List ByteArray) ++ ([a0] : List ByteArray)).length c38) [.slice A37 (([] : List ByteArray) ++ ([a0] : List ByteArray)).length c38] [.slice A37 (([] : List ByteArray) ++ ([a0] : List ByteArray)).length c38,.map (some ba2v6v_1),.map none] hS42 ?_
  intro w43 hS44
  refine sR 1 (.inRegion (opsOf p38_5) [9]::td11) ?_
  refine rS 100 (.tmp 29) (.tmp 27) 2 (.map (some ba1)) [.map (some ba1)] [.slice A37 (([] : List ByteArray) ++ ([a0] : List ByteArray)).length c38,.map (some ba2v6v_1),.map (some ba1)] hS44 ?_
  intro w45 hS46
  refine sR 2 [] ?_
  have hS47:=hS46.pick3
  refine r_rend hS47 [p38_2] ?_
  intro w48 hS49
  have hS50 : St w0 Z (xlp La2 38 (fill (mk 31 [(3,.pointer (some ⟨ba2v3,0,none⟩)),(4,.pointer (some ⟨ba2v4,0,none⟩)),(5,.pointer (some ⟨ba2v5,0,none⟩)),(6,.pointer (some ⟨ba2v6,0,none⟩))]) la2) #[14,15] p38_0 p38_1 Da2 [p38_2] 0::xblk ba2v6 109 ([.slice A37 (([] : List ByteArray) ++ ([a0] : List ByteArray)).length c38,.map (some ba2v6v_1),.map (some ba1)])::xrow A37 c38 9 1 ((([] : List ByteArray) ++ ([a0] : List ByteArray)).flatMap encS)::xrow (some ⟨b30,0,none⟩) 1 9 1 (([a0] : List ByteArray).flatMap encS)::xmap ba1 (a1m.map (kv Value.string (fun v => Value.agg (enc_explore_visit v).toArray)))::xblk ba2v3 3 ([.int .i64 a2v3v])::xblk ba2v4 109 ([.slice none 0 0,.map none,.map none])::xblk ba2v5 4 ([.bool a2v5v])::xmap ba2v6v_1 (ma2v6v_1.map (kv Value.string eVH))::fs) w48:=hS49
  have hS51:=hS50.pick3
  have hS52:=hS51.drop
  have hS53:=hS52.pick7
  have hS54:=hS53.pick2
  have hS55:=hS54.pick7
  have hS56:=hS55.pick7
  have hS57:=hS56.pick7
  have hS58:=hS57.pick5
  have hS59:=hS58.pick7
  have hS60:=hS59.pick7
  cases Option.some.inj hp36
  exact hR _ _ ⟨A37,c38,(some ba1),rfl,hS60⟩

noncomputable def cd29 (p : List Nat) : Code := sub (bodyOf Try.f29) p
abbrev p29_2:=cd29 [1,0,0]
abbrev p29_10:=cd29 [1,1,1,1]
abbrev td14:List Item:=[.code (cd29 [1,0,1]),.code (cd29 [1,1])]
def weirlaw14_Net__number.f (a0 : weirlaw14_Net) (a1 : ByteArray) : Option Int :=
  (if ((a1.size : Int) != 3) = true then some ((-1)) else (if 0 ≤ (0 : Int) ∧ (0 : Int) < (a1.size : Int) then (if ((byt a1 (0 : Int)) != 115) = true then some ((-1)) else (if 0 ≤ (1 : Int) ∧ (1 : Int) < (a1.size : Int) then (if 0 ≤ (2 : Int) ∧ (2 : Int) < (a1.size : Int) then (if (decide ((IntKind.i64.wrap ((shlI .i64 (IntKind.i64.wrap (byt a1 (1 : Int))) 8) + (IntKind.i64.wrap (byt a1 (2 : Int))))) ≥ (a0.Next.length : Int))) = true then some ((-1)) else some ((IntKind.i64.wrap ((shlI .i64 (IntKind.i64.wrap (byt a1 (1 : Int))) 8) + (IntKind.i64.wrap (byt a1 (2 : Int))))))) else none) else none)) else none))
theorem weirlaw14_Net__number.ok {a0 : weirlaw14_Net} {a1 : ByteArray} {y0 : Option Addr} {y1 : Nat} {y2 : Option Addr} {y3 : Nat} {y4 : Option Addr} {y5 : Nat} {q0 : Int} (hp0 : weirlaw14_Net__number.f a0 a1 = some q0) (hS0 : St w0 Z (fs) w) (y6 : SlZ (repL (flat (encI .i64)) 1) 1 Z y0 y1 a0.Next) (y7 : SlZ (flat encB) 1 Z y2 y3 a0.End) (y8 : SlZ (flat (encI .i64)) 1 Z y4 y5 a0.Value) :
    Calls Try.prog 29 #[.agg #[.slice y0 a0.Next.length y1,.slice y2 a0.End.length y3,.slice y4 a0.Value.length y5,.int .i64 a0.Start],.string a1] w (fun e w' => e = .returned (.int .i64 q0) ∧ St w0 Z (fs) w'):=by
  refine calls_abs ?_; intro R hR
  unfold weirlaw14_Net__number.f at hp0
  refine calls_of_runs (fn:=Try.f29) (c:=cd29 []) Try.func29 (by kernel_rfl) (al:=[.agg #[.slice y0 a0.Next.length y1,.slice y2 a0.End.length y3,.slice y4 a0.Value.length y5,.int .i64 a0.Start],.string a1]) rfl (n:=26) rfl ?_
  refine sR 2 [.inRegion (opsOf (cd29 [0])) [0,1],.code (cd29 [1])] ?_
  refine r_box (c:=(cd29 [0])) (i:=0) (d:=(some 2)) (ty:=0) (x:=(.tmp 0)) (v:=.agg #[.slice y0 a0.Next.length y1,.slice y2 a0.End.length y3,.slice y4 a0.Value.length y5,.int .i64 a0.Start]) (t:=26) (cs:=[.slice y0 a0.Next.length y1,.slice y2 a0.End.length y3,.slice y4 a0.Value.length y5,.int .i64 a0.Start]) hS0 (by kernel_rfl) (by kernel_rfl) (by kernel_rfl) (by kernel_rfl) ?_
  intro b1 w2 hS3
  refine sI 8 (iR p29_2 3 5::td14) 8 hp0 (fun hp7 => ?_) fun hp10 => ?_
  ·refine sR 11 [.code (cd29 [1,0,1,0,1]),.code (cd29 [1,1])] ?_
   have hS8:=hS3.drop
   refine rR (.int .i64 (-1)) Try.func29 ?_
   cases Option.some.inj hp7
   exact hR _ _ ⟨rfl,hS8⟩
  refine sR 2 (.inRegion (opsOf p29_2) [5,6,7]::td14) ?_
  obtain ⟨g11,hp12⟩:=ite_some hp10
  refine rV (.index 9 (.tmp 10) (.const (.int .i64 0))) (.int .u8 (byt a1 (0 : Int))) (fun o ho _ => x_indexStr (kk:=.i64) (by kernel_rfl) (by kernel_rfl) (by kernel_rfl) g11.1 g11.2 ho) ?_
  refine sI 1 (.inRegion (opsOf p29_2) [7]::td14) 12 hp12 (fun hp15 => ?_) fun hp18 => ?_
  ·refine sR 7 [.code (cd29 [1,0,1,0,1]),.code (cd29 [1,1])] ?_
   have hS16:=hS3.drop
   refine rR (.int .i64 (-1)) Try.func29 ?_
   cases Option.some.inj hp15
   exact hR _ _ ⟨rfl,hS16⟩
  refine sR 5 [.code (cd29 [1,1,0]),.code (cd29 [1,1,1])] ?_
  refine r_quiet hS3 (c:=(cd29 [1,1,0])) (id:=3) (by kernel_rfl) (by kernel_rfl) (by kernel_rfl) (is:=[0,1,2,3,4,5,6,7,8]) (by kernel_rfl) ?_
  refine qR 1 (rg 1 8) ?_
  obtain ⟨g19,hp20⟩:=ite_some hp18
  refine qV (.index 9 (.tmp 14) (.const (.int .i64 1))) (.int .u8 (byt a1 (1 : Int))) (fun w hC o ho _ => x_indexStr (kk:=.i64) (by kernel_rfl) (by kernel_rfl) (by kernel_rfl) g19.1 g19.2 ho) ?_
  refine qR 3 (rg 5 4) ?_
  obtain ⟨g21,hp22⟩:=ite_some hp20
  refine qV (.index 9 (.tmp 18) (.const (.int .i64 2))) (.int .u8 (byt a1 (2 : Int))) (fun w hC o ho _ => x_indexStr (kk:=.i64) (by kernel_rfl) (by kernel_rfl) (by kernel_rfl) g21.1 g21.2 ho) ?_
  refine qR 3 [] ?_
  refine Qs.nil ?_
  intro w23 hS24
  refine sR 5 [.inRegion (opsOf (cd29 [1,1,1,0,0])) [2,3,4],.code (cd29 [1,1,1,0,1]),.code p29_10] ?_
  refine rL1 22 (.tmp 23) 0 (hS24.blk 0 rfl) ?_
  refine sI 2 [.inRegion (opsOf (cd29 [1,1,1,0,0])) [],.code (cd29 [1,1,1,0,1]),.code p29_10] 26 hp22 (fun hp27 => ?_) fun hp30 => ?_
  ·refine sR 6 [.code (cd29 [1,1,1,0,1,0,1]),.code p29_10] ?_
   have hS28:=hS24.drop
   refine rR (.int .i64 (-1)) Try.func29 ?_
   cases Option.some.inj hp27
   exact hR _ _ ⟨rfl,hS28⟩
  refine sR 8 [.code (cd29 [1,1,1,1,1])] ?_
  have hS31:=hS24.drop
  refine rR (.int .i64 (IntKind.i64.wrap ((shlI .i64 (IntKind.i64.wrap (byt a1 (1 : Int))) 8) + (IntKind.i64.wrap (byt a1 (2 : Int)))))) Try.func29 ?_
  cases Option.some.inj hp30
  exact hR _ _ ⟨rfl,hS31⟩

noncomputable def cd30 (p : List Nat) : Code := sub (bodyOf Try.f30) p
def weirlaw14_pick.f (a0 a1 : Int) : Option api_Pick :=
  some ((⟨a0,(IntKind.i64.wrap ((a1.tmod 3) + 1)),a1⟩ : api_Pick))
theorem weirlaw14_pick.ok {a0 a1 : Int} {q0 : api_Pick} (hp0 : weirlaw14_pick.f a0 a1 = some q0) (hS0 : St w0 Z (fs) w) :
    Calls Try.prog 30 #[.int .i64 a0,.int .i64 a1] w (fun e w' => e = .returned (.agg (enc_api_Pick q0).toArray) ∧ St w0 Z (fs) w'):=by
  refine calls_abs ?_; intro R hR
  unfold weirlaw14_pick.f at hp0
  refine calls_of_runs (fn:=Try.f30) (c:=cd30 []) Try.func30 (by kernel_rfl) (al:=[.int .i64 a0,.int .i64 a1]) rfl (n:=9) rfl ?_
  refine sR 2 [.inRegion (opsOf (cd30 [0])) [0],.code (cd30 [1])] ?_
  refine rA 88 (.agg (enc_api_Pick (⟨0,0,0⟩ : api_Pick)).toArray) (enc_api_Pick (⟨0,0,0⟩ : api_Pick)) hS0 ?_
  intro b1 w2 hS3
  refine sR 9 [.inRegion (opsOf (cd30 [1,0])) [6],.code (cd30 [1,1])] ?_
  refine rSA 88 (.tmp 4) (.tmp 10) (enc_api_Pick (⟨a0,(IntKind.i64.wrap ((a1.tmod 3) + 1)),a1⟩ : api_Pick)) hS3 (one_api_Pick _) ?_
  intro w5 hS6
  refine sR 1 [.code (cd30 [1,1])] ?_
  have hS7:=hS6.drop
  refine rRc (.agg (enc_api_Pick (⟨a0,(IntKind.i64.wrap ((a1.tmod 3) + 1)),a1⟩ : api_Pick)).toArray) (.ca 4 88 (hS6.blk 0 rfl) .nil) Try.func30 ?_
  cases Option.some.inj hp0
  exact hR _ _ ⟨rfl,hS7⟩

noncomputable def cd28 (p : List Nat) : Code := sub (bodyOf Try.f28) p
abbrev p28_0:=cd28 [1,0]
abbrev p28_1:=cd28 [1,1]
abbrev p28_4:=cd28 [1,1,1,0,0]
abbrev p28_11:=cd28 [1,1,1,1,1,0]
abbrev p28_12:=cd28 [1,1,1,1,1,1]
abbrev p28_13:=cd28 [1,1,1,1,1,1,0,1,0,0]
abbrev p28_19:=cd28 [1,1,1,1,1,1,0,1,0,0,1,0,0]
abbrev td15:List Item:=[.code (cd28 [1,1,1,1])]
abbrev td16:List Item:=.code (cd28 [1,1,1,0,1])::td15
abbrev td17:List Item:=[.code (cd28 [1,1,1,1,1,1,1])]
abbrev td18:List Item:=.inBlock 0::td17
abbrev td19:List Item:=.inLoop p28_13::td18
abbrev td20:List Item:=.code p28_13::td19
def weirlaw14_Net__machine_1.l0 (t4 t70 : Int) (t71 : List api_Pick) : Option (List api_Pick) :=
  (if (decide (t70 < (t71.length : Int))) = true then (weirlaw14_pick.f t4 t70 >>= (fun t84 => (if 0 ≤ t70 ∧ t70 < (t71.length : Int) then (weirlaw14_Net__machine_1.l0 t4 (IntKind.i64.wrap (t70 + 1)) (setl t71 t70 t84)) else none))) else some (t71))
 partial_fixpoint
def weirlaw14_Net__machine_1.f (a0 : ByteArray) (a1vv_0m a1vv_1m a1vv_2m : List (ByteArray × Int)) (a1vv_3 : Bool) (a2v : weirlaw14_Net) : Option ((List api_Pick) × Bool × (List (ByteArray × Int))) :=
  (weirlaw14_Net__number.f a2v a0 >>= (fun t4 => (((if (decide (((mget (mput a1vv_0m a0 (IntKind.i64.wrap (((mget a1vv_0m a0).getD (0 : Int)) + 1))) a0).getD (0 : Int)) > 1)) = true then some (true) else (if (decide (t4 < 0)) = true then some (true) else some (false))) : Option Bool) >>= (fun t12 => (((if t12 = true then some (true) else some (a1vv_3)) : Option Bool) >>= (fun t21 => (if (decide (t4 < 0)) = true then some (([],t21,(mput a1vv_0m a0 (IntKind.i64.wrap (((mget a1vv_0m a0).getD (0 : Int)) + 1))))) else (if 0 ≤ t4 ∧ t4 < (a2v.Next.length : Int) then (if 0 ≤ ((gt a2v.Next t4).length : Int) ∧ ((gt a2v.Next t4).length : Int) * 24 ≤ 140737488355328 then (weirlaw14_Net__machine_1.l0 t4 0 (List.replicate ((gt a2v.Next t4).length : Int).toNat (⟨0,0,0⟩ : api_Pick)) >>= (fun t63 => some ((t63,t21,(mput a1vv_0m a0 (IntKind.i64.wrap (((mget a1vv_0m a0).getD (0 : Int)) + 1))))))) else none) else none))))))))
theorem weirlaw14_Net__machine_1.ok {a0 : ByteArray} {a1vv_0m a1vv_1m a1vv_2m : List (ByteArray × Int)} {a1vv_3 : Bool} {a2v : weirlaw14_Net} {ba1 ba1v : Nat} {ba1vv_0 ba1vv_1 : Nat} {ba1vv_2 ba2 : Nat} {y10 : Option Addr} {y11 : Nat} {y12 : Option Addr} {y13 : Nat} {y14 : Option Addr} {y15 : Nat} {q0 : List api_Pick} {q1 : Bool} {q2 : List (ByteArray × Int)} (hp0 : weirlaw14_Net__machine_1.f a0 a1vv_0m a1vv_1m a1vv_2m a1vv_3 a2v = some (q0,q1,q2)) (hS0 : St w0 Z (xblk ba1 33 ([.pointer (some ⟨ba1v,0,none⟩)])::xblk ba1v 49 ([.map (some ba1vv_0),.map (some ba1vv_1),.map (some ba1vv_2),.bool a1vv_3])::xmap ba1vv_0 (a1vv_0m.map (kv Value.string (Value.int .i64)))::xmap ba1vv_1 (a1vv_1m.map (kv Value.string (Value.int .i64)))::xmap ba1vv_2 (a1vv_2m.map (kv Value.string (Value.int .i64)))::xblk ba2 26 ([.slice y10 a2v.Next.length y11,.slice y12 a2v.End.length y13,.slice y14 a2v.Value.length y15,.int .i64 a2v.Start])::fs) w) (y16 : SlZ (repL (flat (encI .i64)) 1) 1 Z y10 y11 a2v.Next) (y17 : SlZ (flat encB) 1 Z y12 y13 a2v.End) (y18 : SlZ (flat (encI .i64)) 1 Z y14 y15 a2v.Value) :
    Calls Try.prog 28 #[.string a0,.pointer (some ⟨ba1,0,none⟩),.pointer (some ⟨ba2,0,none⟩)] w (fun e w' => ∃ (QA0 : Option Addr) (Qc0 : Nat),e = .returned (.slice QA0 q0.length Qc0) ∧ St w0 Z (xrow QA0 Qc0 88 3 (q0.flatMap enc_api_Pick)::xblk ba1 33 ([.pointer (some ⟨ba1v,0,none⟩)])::xblk ba1v 49 ([.map (some ba1vv_0),.map (some ba1vv_1),.map (some ba1vv_2),.bool q1])::xmap ba1vv_0 (q2.map (kv Value.string (Value.int .i64)))::xmap ba1vv_1 (a1vv_1m.map (kv Value.string (Value.int .i64)))::xmap ba1vv_2 (a1vv_2m.map (kv Value.string (Value.int .i64)))::xblk ba2 26 ([.slice y10 a2v.Next.length y11,.slice y12 a2v.End.length y13,.slice y14 a2v.Value.length y15,.int .i64 a2v.Start])::fs) w'):=by
  refine calls_abs ?_; intro R hR
  unfold weirlaw14_Net__machine_1.f at hp0
  refine calls_of_runs (fn:=Try.f28) (c:=cd28 []) Try.func28 (by kernel_rfl) (al:=[.string a0,.pointer (some ⟨ba1,0,none⟩),.pointer (some ⟨ba2,0,none⟩)]) rfl (n:=51) rfl ?_
  refine sR 6 [iR p28_0 0 8,.code p28_1] ?_
  refine rL1 33 (.tmp 1) 0 (hS0.blk 0 rfl) ?_
  refine sR 2 [iR p28_0 3 5,.code p28_1] ?_
  refine rL1 41 (.tmp 10) 0 (hS0.blk 1 rfl) ?_
  refine sR 1 [.inRegion (opsOf p28_0) [5,6,7],.code p28_1] ?_
  refine rV (.lookup 41 (.tmp 11) (.tmp 12) false) (.int .i64 ((mget a1vv_0m a0).getD (0 : Int))) (fun o ho _ => x_lookup1 (eK:=Value.string) (eV:=(Value.int .i64)) (dk:=.string) (b:=ba1vv_0) (t:=41) (kt:=9) (et:=3) (m:=a1vv_0m) (kk:=a0) (z:=(0 : Int)) (hS0.at 2 rfl) key_str (by kernel_rfl) (by kernel_rfl) (by kernel_rfl) (by kernel_rfl) (by kernel_rfl) ho) ?_
  refine sR 1 [.inRegion (opsOf p28_0) [7],.code p28_1] ?_
  have hS1:=hS0.pick2
  refine r_mapUpdate (c:=p28_0) (i:=7) (d:=none) (ty:=0) (eK:=Value.string) (eV:=(Value.int .i64)) (dk:=.string) (b:=ba1vv_0) (t:=41) (kt:=9) (et:=3) (x:=(.tmp 11)) (y:=(.tmp 12)) (z:=(.tmp 14)) (m:=a1vv_0m) (kk:=a0) (v:=(IntKind.i64.wrap (((mget a1vv_0m a0).getD (0 : Int)) + 1))) hS1 (by kernel_rfl) (by kernel_rfl) key_str (by kernel_rfl) (by kernel_rfl) (by kernel_rfl) (by kernel_rfl) (by kernel_rfl) ?_
  intro w2 hS3
  refine sR 3 [iR (cd28 [1,1,0]) 0 4,.code (cd28 [1,1,1])] ?_
  refine rLa 26 (.tmp 2) (hS3.blk 5 rfl) ?_
  refine sR 1 [.inRegion (opsOf (cd28 [1,1,0])) [2,3],.code (cd28 [1,1,1])] ?_
  obtain ⟨t4,hr5,hp6⟩:=bind_some' hp0
  refine rC (weirlaw14_Net__number.ok hr5 hS3 y16 y17 y18) ?_
  rintro _ w7 ⟨rfl,hS8⟩
  refine ⟨_,rfl,?_⟩
  refine sR 4 (.code p28_4::td16) ?_
  obtain ⟨v9,hv10,hp11⟩:=bind_some' hp6
  have J15 : ∀ (t12 : Bool) (he17 : t12 = v9) (l16 : List Value) (w13 : World) (hS14 : St w0 Z (xblk ba1 33 ([.pointer (some ⟨ba1v,0,none⟩)])::xblk ba1v 49 ([.map (some ba1vv_0),.map (some ba1vv_1),.map (some ba1vv_2),.bool a1vv_3])::xmap ba1vv_0 ((mput a1vv_0m a0 (IntKind.i64.wrap (((mget a1vv_0m a0).getD (0 : Int)) + 1))).map (kv Value.string (Value.int .i64)))::xmap ba1vv_1 (a1vv_1m.map (kv Value.string (Value.int .i64)))::xmap ba1vv_2 (a1vv_2m.map (kv Value.string (Value.int .i64)))::xblk ba2 26 ([.slice y10 a2v.Next.length y11,.slice y12 a2v.End.length y13,.slice y14 a2v.Value.length y15,.int .i64 a2v.Start])::fs) w13),Runs Try.prog (fx 28) td16 (fill (mk 54 [(1,.pointer (some ⟨ba1,0,none⟩)),(2,.pointer (some ⟨ba2,0,none⟩)),(5,.int .i64 t4),(28,.bool t12)]) l16) w13 R:=by
   intro t12 he17 l16 w13 hS14
   subst he17
   try dsimp only at hp11
   obtain ⟨v18,hv19,hp20⟩:=bind_some' hp11
   have J24 : ∀ (t21 : Bool) (he26 : t21 = v18) (l25 : List Value) (w22 : World) (hS23 : St w0 Z (xblk ba2 26 ([.slice y10 a2v.Next.length y11,.slice y12 a2v.End.length y13,.slice y14 a2v.Value.length y15,.int .i64 a2v.Start])::xblk ba1 33 ([.pointer (some ⟨ba1v,0,none⟩)])::xblk ba1v 49 ([.map (some ba1vv_0),.map (some ba1vv_1),.map (some ba1vv_2),.bool t21])::xmap ba1vv_0 ((mput a1vv_0m a0 (IntKind.i64.wrap (((mget a1vv_0m a0).getD (0 : Int)) + 1))).map (kv Value.string (Value.int .i64)))::xmap ba1vv_1 (a1vv_1m.map (kv Value.string (Value.int .i64)))::xmap ba1vv_2 (a1vv_2m.map (kv Value.string (Value.int .i64)))::fs) w22),Runs Try.prog (fx 28) td15 (fill (mk 54 [(2,.pointer (some ⟨ba2,0,none⟩)),(5,.int .i64 t4)]) l25) w22 R:=by
    intro t21 he26 l25 w22 hS23
    subst he26
    try dsimp only at hp20
    refine sI 5 [.inRegion (opsOf (cd28 [1,1,1,1,0,0])) [],.code (cd28 [1,1,1,1,0,1]),.code (cd28 [1,1,1,1,1])] 33 hp20 (fun hp29 => ?_) fun hp40 => ?_
    ·refine sR 6 [.code (cd28 [1,1,1,1,0,1,0,1]),.code (cd28 [1,1,1,1,1])] ?_
     have hS31:=hS23.nilrow none 88 3
     have hS32:=hS31.pick1
     have hS33:=hS32.pick6
     have hS34:=hS33.pick6
     have hS35:=hS34.pick6
     have hS36:=hS35.pick6
     have hS37:=hS36.pick6
     have hS38:=hS37.pick6
     refine rR (.slice none 0 0) Try.func28 ?_
     cases Option.some.inj hp29
     exact hR _ _ ⟨none,0,rfl,hS38⟩
    refine sR 6 [iR p28_11 1 7,.code p28_12] ?_
    refine rL1 22 (.tmp 34) 0 (hS23.blk 0 rfl) ?_
    refine sR 1 [iR p28_11 3 5,.code p28_12] ?_
    obtain ⟨g41,hp42⟩:=ite_some hp40
    obtain ⟨b43,p44,cs47,hA45,hr48,hl49,hc46⟩:=y16.at_ g41.1 g41.2
    obtain ⟨A50,c51,rfl,hs52⟩:=hr48
    refine r_indexAddr (c:=p28_11) (i:=3) (d:=(some 37)) (ty:=0) (t:=22) (e:=37) (n:=a2v.Next.length) (cp:=y11) (sz:=1) (kk:=.i64) (x:=(.tmp 35)) (y:=(.tmp 36)) (b:=b43) (o':=p44) (j:=t4) (by kernel_rfl) (by kernel_rfl) (slv (by kernel_rfl) hA45) (by kernel_rfl) (by kernel_rfl) (by kernel_rfl) g41.1 g41.2 ?_
    refine rL1 37 (.tmp 37) 0 (hc46.cells hS23) ?_
    refine sR 1 [.inRegion (opsOf p28_11) [6,7],.code p28_12] ?_
    obtain ⟨g54,hp55⟩:=ite_some hp42
    refine r_make (c:=p28_11) (i:=6) (d:=(some 40)) (ty:=40) (enc:=enc_api_Pick) (t:=40) (e:=88) (sz:=3) (bytes:=24) (info:=infoOf Try.prog 88) (x:=(.tmp 39)) (y:=(.tmp 39)) (n:=((gt a2v.Next t4).length : Int)) (kk:=.i64) (kc:=.i64) (z:=.agg (enc_api_Pick (⟨0,0,0⟩ : api_Pick)).toArray) (x0:=(⟨0,0,0⟩ : api_Pick)) hS23 (by kernel_rfl) (by kernel_rfl) (by kernel_rfl) (by kernel_rfl) (by kernel_rfl) (by kernel_rfl) (by kernel_rfl) (by kernel_rfl) (by kernel_rfl) (by kernel_rfl) len_api_Pick (by omega) g54 (by omega) ?_
    intro A56 w57 hS58
    refine rF [none,none,none,none,none,none,none,none,none,none,none,none,none,none,none,none,none,none,none,none,none,none,none,none,none,none,none,none,none,none,none,none,none,none,none,none,none,none,none,none,some (.slice A56 ((gt a2v.Next t4).length : Int).toNat ((gt a2v.Next t4).length : Int).toNat),none,none,none,none,none,none,none,none,none,none,none,none,none] ?_
    refine Runs.refill (m':=[none,none,none,none,none,none,none,none,none,none,none,none,none,none,none,none,none,none,none,none,none,none,none,none,none,none,none,none,none,none,none,none,none,none,none,none,none,none,none,none,some (.slice A56 (List.replicate ((gt a2v.Next t4).length : Int).toNat (⟨0,0,0⟩ : api_Pick)).length (((gt a2v.Next t4).length : Int).toNat)),none,none,none,none,none,none,none,none,none,none,none,none,none]) (by simp only [List.length_replicate]) ?_
    refine sR 9 td20 ?_
    obtain ⟨v60,hv61,hp62⟩:=bind_some' hp55
    have J66 : ∀ (t63 : List api_Pick) (he68 : t63 = v60) (l67 : List Value) (w64 : World) (hS65 : St w0 Z (xrow A56 (((gt a2v.Next t4).length : Int).toNat) 88 3 (t63.flatMap enc_api_Pick)::xblk ba1 33 ([.pointer (some ⟨ba1v,0,none⟩)])::xblk ba1v 49 ([.map (some ba1vv_0),.map (some ba1vv_1),.map (some ba1vv_2),.bool t21])::xmap ba1vv_0 ((mput a1vv_0m a0 (IntKind.i64.wrap (((mget a1vv_0m a0).getD (0 : Int)) + 1))).map (kv Value.string (Value.int .i64)))::xmap ba1vv_1 (a1vv_1m.map (kv Value.string (Value.int .i64)))::xmap ba1vv_2 (a1vv_2m.map (kv Value.string (Value.int .i64)))::xblk ba2 26 ([.slice y10 a2v.Next.length y11,.slice y12 a2v.End.length y13,.slice y14 a2v.Value.length y15,.int .i64 a2v.Start])::fs) w64),Runs Try.prog (fx 28) td17 (fill (mk 54 [(6,.slice A56 t63.length (((gt a2v.Next t4).length : Int).toNat))]) l67) w64 R:=by
     intro t63 he68 l67 w64 hS65
     subst he68
     try dsimp only at hp62
     refine sR 5 [.code (cd28 [1,1,1,1,1,1,1,1])] ?_
     refine rR (.slice A56 t63.length (((gt a2v.Next t4).length : Int).toNat)) Try.func28 ?_
     cases Option.some.inj hp62
     exact hR _ _ ⟨A56,((gt a2v.Next t4).length : Int).toNat,rfl,hS65⟩
    have L80 : ∀ (t70 : Int) (t71 : List api_Pick) (e75 : (List api_Pick)),weirlaw14_Net__machine_1.l0 t4 t70 t71 = some e75 → e75 = v60 → ∀ (l74 : List Value) (w72 : World) (hS73 : St w0 Z (xrow A56 (((gt a2v.Next t4).length : Int).toNat) 88 3 (t71.flatMap enc_api_Pick)::xblk ba1 33 ([.pointer (some ⟨ba1v,0,none⟩)])::xblk ba1v 49 ([.map (some ba1vv_0),.map (some ba1vv_1),.map (some ba1vv_2),.bool t21])::xmap ba1vv_0 ((mput a1vv_0m a0 (IntKind.i64.wrap (((mget a1vv_0m a0).getD (0 : Int)) + 1))).map (kv Value.string (Value.int .i64)))::xmap ba1vv_1 (a1vv_1m.map (kv Value.string (Value.int .i64)))::xmap ba1vv_2 (a1vv_2m.map (kv Value.string (Value.int .i64)))::xblk ba2 26 ([.slice y10 a2v.Next.length y11,.slice y12 a2v.End.length y13,.slice y14 a2v.Value.length y15,.int .i64 a2v.Start])::fs) w72),Runs Try.prog (fx 28) td20 (fill (mk 54 [(5,.int .i64 t4),(6,.slice A56 t71.length (((gt a2v.Next t4).length : Int).toNat)),(7,.int .i64 t70)]) l74) w72 R:=by
     refine weirlaw14_Net__machine_1.l0.partial_correctness t4 (fun t70 t71 e75 => e75 = v60 → ∀ (l74 : List Value) (w72 : World) (hS73 : St w0 Z (xrow A56 (((gt a2v.Next t4).length : Int).toNat) 88 3 (t71.flatMap enc_api_Pick)::xblk ba1 33 ([.pointer (some ⟨ba1v,0,none⟩)])::xblk ba1v 49 ([.map (some ba1vv_0),.map (some ba1vv_1),.map (some ba1vv_2),.bool t21])::xmap ba1vv_0 ((mput a1vv_0m a0 (IntKind.i64.wrap (((mget a1vv_0m a0).getD (0 : Int)) + 1))).map (kv Value.string (Value.int .i64)))::xmap ba1vv_1 (a1vv_1m.map (kv Value.string (Value.int .i64)))::xmap ba1vv_2 (a1vv_2m.map (kv Value.string (Value.int .i64)))::xblk ba2 26 ([.slice y10 a2v.Next.length y11,.slice y12 a2v.End.length y13,.slice y14 a2v.Value.length y15,.int .i64 a2v.Start])::fs) w72),Runs Try.prog (fx 28) td20 (fill (mk 54 [(5,.int .i64 t4),(6,.slice A56 t71.length (((gt a2v.Next t4).length : Int).toNat)),(7,.int .i64 t70)]) l74) w72 R) ?_
     intro rec79 ih78 t70 t71 e75 hb77 he76 l74 w72 hS73
     refine sI 7 (.inRegion (opsOf (cd28 [1,1,1,1,1,1,0,1,0,0,0,0])) []::.code (cd28 [1,1,1,1,1,1,0,1,0,0,0,1])::.code (cd28 [1,1,1,1,1,1,0,1,0,0,1])::td19) 44 hb77 (fun hp83 => ?_) fun hp97 => ?_
     ·refine sR 10 (.inRegion (opsOf p28_19) [4,5,6]::.inBlock 1::.code (cd28 [1,1,1,1,1,1,0,1,0,0,1,1])::td19) ?_
      obtain ⟨t84,hr85,hp86⟩:=bind_some' hp83
      refine rC (weirlaw14_pick.ok hr85 hS73) ?_
      rintro _ w87 ⟨rfl,hS88⟩
      refine ⟨_,rfl,?_⟩
      obtain ⟨g89,hp90⟩:=ite_some hp86
      obtain ⟨b91,p92,hA93,-⟩:=(hS88.row 0 rfl).at_ len_api_Pick (by omega) g89.1 g89.2
      refine r_indexAddr (c:=p28_19) (i:=5) (d:=(some 52)) (ty:=0) (t:=40) (e:=88) (n:=t71.length) (cp:=((gt a2v.Next t4).length : Int).toNat) (sz:=3) (kk:=.i64) (x:=(.tmp 47)) (y:=(.tmp 48)) (b:=b91) (o':=p92) (j:=t70) (by kernel_rfl) (by kernel_rfl) (slv (by kernel_rfl) hA93) (by kernel_rfl) (by kernel_rfl) (by kernel_rfl) g89.1 g89.2 ?_
      refine r_storeEl (c:=p28_19) (i:=6) (d:=none) (ty:=0) (enc:=enc_api_Pick) (e:=88) (t:=88) (sz:=3) (cp:=((gt a2v.Next t4).length : Int).toNat) (A:=A56) (xs:=t71) (x:=(.tmp 52)) (y:=(.tmp 51)) (el:=gt t71 t70) (el':=t84) (j:=t70) (off:=0) (b:=b91) (p:=p92) (v:=.agg (enc_api_Pick t84).toArray) (vs:=enc_api_Pick t84) (ad:=⟨b91,p92 + t70.toNat * 3,none⟩) hS88 (by kernel_rfl) (by kernel_rfl) (by kernel_rfl) (by simp) (by kernel_rfl) hA93 g89 rfl len_api_Pick (by kernel_rfl) (by kernel_rfl) (one_api_Pick _) (by rw [len_api_Pick]; omega) (by rw [len_api_Pick]; omega) (by kernel_rfl) ?_
      intro w95 hS96
      refine rF [none,none,none,none,none,none,some (.slice A56 t71.length (((gt a2v.Next t4).length : Int).toNat)),none,none,none,none,none,none,none,none,none,none,none,none,none,none,none,none,none,none,none,none,none,none,none,none,none,none,none,none,none,none,none,none,none,none,none,some (.slice A56 t71.length (((gt a2v.Next t4).length : Int).toNat)),none,none,none,none,some (.slice A56 t71.length (((gt a2v.Next t4).length : Int).toNat)),none,none,none,none,none,none] ?_
      refine Runs.refill (m':=[none,none,none,none,none,none,some (.slice A56 (setl t71 t70 t84).length (((gt a2v.Next t4).length : Int).toNat)),none,none,none,none,none,none,none,none,none,none,none,none,none,none,none,none,none,none,none,none,none,none,none,none,none,none,none,none,none,none,none,none,none,none,none,some (.slice A56 (setl t71 t70 t84).length (((gt a2v.Next t4).length : Int).toNat)),none,none,none,none,some (.slice A56 (setl t71 t70 t84).length (((gt a2v.Next t4).length : Int).toNat)),none,none,none,none,none,none]) (by simp only [setl_len]) ?_
      refine sR 7 td19 ?_
      refine sR 1 td20 ?_
      exact rF _ (ih78 (IntKind.i64.wrap (t70 + 1)) (setl t71 t70 t84) _ hp90 he76 _ _ hS96)
     refine sR 3 td17 ?_
     exact rF _ (J66 t71 ((Option.some.inj hp97).trans he76) _ _ hS73)
    have hS98:=hS58.pick1
    have hS99:=hS98.pick6
    have hS100:=hS99.pick6
    have hS101:=hS100.pick6
    have hS102:=hS101.pick6
    have hS103:=hS102.pick6
    have hS104:=hS103.pick6
    exact rF _ (L80 0 (List.replicate ((gt a2v.Next t4).length : Int).toNat (⟨0,0,0⟩ : api_Pick)) _ hv61 rfl _ _ hS104)
   cases t12
   ·have hp105:=ite_f hv19 rfl
    refine sR 2 td15 ?_
    have hS106:=hS14.pick4
    have hS107:=hS106.pick4
    have hS108:=hS107.pick4
    have hS109:=hS108.pick4
    have hS110:=hS109.pick4
    have hS111:=hS110.pick5
    exact rF _ (J24 a1vv_3 (Option.some.inj hp105) _ _ hS111)
   have hp112:=ite_t hv19 rfl
   refine sR 2 (iR (cd28 [1,1,1,0,1,0]) 0 4::td15) ?_
   refine rL1 33 (.tmp 1) 0 (hS14.blk 0 rfl) ?_
   refine sR 2 (.inRegion (opsOf (cd28 [1,1,1,0,1,0])) [3]::td15) ?_
   have hS113:=hS14.pick1
   refine rS 4 (.tmp 31) (.const (.bool true)) 3 (.bool true) [.bool true] [.map (some ba1vv_0),.map (some ba1vv_1),.map (some ba1vv_2),.bool true] hS113 ?_
   intro w114 hS115
   refine sR 1 td15 ?_
   have hS116:=hS115.pick4
   have hS117:=hS116.pick4
   have hS118:=hS117.pick4
   have hS119:=hS118.pick3
   have hS120:=hS119.pick4
   have hS121:=hS120.pick5
   exact rF _ (J24 true (Option.some.inj hp112) _ _ hS121)
  refine sR 1 (iR p28_4 0 11::td16) ?_
  refine rL1 33 (.tmp 1) 0 (hS8.blk 1 rfl) ?_
  refine sR 2 (iR p28_4 3 8::td16) ?_
  refine rL1 41 (.tmp 20) 0 (hS8.blk 2 rfl) ?_
  refine sR 1 (iR p28_4 5 6::td16) ?_
  refine rV (.lookup 41 (.tmp 21) (.tmp 22) false) (.int .i64 ((mget (mput a1vv_0m a0 (IntKind.i64.wrap (((mget a1vv_0m a0).getD (0 : Int)) + 1))) a0).getD (0 : Int))) (fun o ho _ => x_lookup1 (eK:=Value.string) (eV:=(Value.int .i64)) (dk:=.string) (b:=ba1vv_0) (t:=41) (kt:=9) (et:=3) (m:=(mput a1vv_0m a0 (IntKind.i64.wrap (((mget a1vv_0m a0).getD (0 : Int)) + 1)))) (kk:=a0) (z:=(0 : Int)) (hS8.at 0 rfl) key_str (by kernel_rfl) (by kernel_rfl) (by kernel_rfl) (by kernel_rfl) (by kernel_rfl) ho) ?_
  refine sI 1 (iR p28_4 7 4::td16) 24 hv10 (fun hp124 => ?_) fun hp131 => ?_
  ·refine sR 5 td16 ?_
   have hS125:=hS8.pick5
   have hS126:=hS125.pick5
   have hS127:=hS126.pick5
   have hS128:=hS127.pick3
   have hS129:=hS128.pick5
   have hS130:=hS129.pick5
   exact rF _ (J15 true (Option.some.inj hp124) _ _ hS130)
  refine sI 3 (.inRegion (opsOf p28_4) [10]::td16) 27 hp131 (fun hp134 => ?_) fun hp141 => ?_
  ·refine sR 2 td16 ?_
   have hS135:=hS8.pick5
   have hS136:=hS135.pick5
   have hS137:=hS136.pick5
   have hS138:=hS137.pick3
   have hS139:=hS138.pick5
   have hS140:=hS139.pick5
   exact rF _ (J15 true (Option.some.inj hp134) _ _ hS140)
  refine sR 2 td16 ?_
  have hS142:=hS8.pick5
  have hS143:=hS142.pick5
  have hS144:=hS143.pick5
  have hS145:=hS144.pick3
  have hS146:=hS145.pick5
  have hS147:=hS146.pick5
  exact rF _ (J15 false (Option.some.inj hp141) _ _ hS147)

noncomputable def cd31 (p : List Nat) : Code := sub (bodyOf Try.f31) p
abbrev p31_4:=cd31 [1,1,0,0]
abbrev p31_6:=cd31 [1,1,1]
abbrev p31_9:=cd31 [1,1,1,1,0]
abbrev p31_10:=cd31 [1,1,1,1,1]
abbrev p31_11:=cd31 [1,1,1,1,1,0,0]
abbrev p31_14:=cd31 [1,1,1,1,1,1,0]
abbrev p31_16:=cd31 [1,1,1,1,1,1,1,0,0]
abbrev p31_18:=cd31 [1,1,1,1,1,1,1,1]
abbrev p31_19:=cd31 [1,1,1,1,1,1,1,0,1,0,1]
abbrev p31_21:=cd31 [1,1,1,1,1,1,1,1,1]
abbrev td21:List Item:=[.code (cd31 [1,1,1,1,1,1])]
abbrev td22:List Item:=.code (cd31 [1,1,1,1,1,0,1])::td21
abbrev td23:List Item:=[.code (cd31 [1,1,1,1,1,1,1,0,1]),.code p31_18]
def weirlaw14_Net__machine_2.f (a0 : ByteArray) (a1 : api_Pick) (a2v : weirlaw14_Net) (a3vv_0m a3vv_1m a3vv_2m : List (ByteArray × Int)) (a3vv_3 : Bool) : Option (ByteArray × Bool × Bool × (List (ByteArray × Int))) :=
  (weirlaw14_Net__number.f a2v a0 >>= (fun t5 => (((if (decide (t5 < 0)) = true then some (true) else (if (decide (a1.Loc < 0)) = true then some (true) else (if 0 ≤ t5 ∧ t5 < (a2v.Next.length : Int) then (if (decide (a1.Loc ≥ ((gt a2v.Next t5).length : Int))) = true then some (true) else (weirlaw14_pick.f t5 a1.Loc >>= (fun t164 => (if (!(decide (a1 = t164))) = true then some (true) else some (false))))) else none))) : Option Bool) >>= (fun t13 => (if t13 = true then some (((⟨#[]⟩ : ByteArray),false,true,a3vv_2m)) else (weirlaw14_name.f a1.Loc >>= (fun t20 => (if a0.size + t20.size ≤ 9223372036854775807 then (((if (decide (((mget (mput a3vv_2m (a0 ++ t20) (IntKind.i64.wrap (((mget a3vv_2m (a0 ++ t20)).getD (0 : Int)) + 1))) (a0 ++ t20)).getD (0 : Int)) > 1)) = true then some (true) else some (a3vv_3)) : Option Bool) >>= (fun t33 => (if 0 ≤ t5 ∧ t5 < (a2v.Next.length : Int) then (if 0 ≤ a1.Loc ∧ a1.Loc < ((gt a2v.Next t5).length : Int) then (if (decide ((gt (gt a2v.Next t5) a1.Loc) < 0)) = true then some (((⟨#[]⟩ : ByteArray),false,t33,(mput a3vv_2m (a0 ++ t20) (IntKind.i64.wrap (((mget a3vv_2m (a0 ++ t20)).getD (0 : Int)) + 1))))) else (if (decide ((gt (gt a2v.Next t5) a1.Loc) ≥ (a2v.Next.length : Int))) = true then some (((⟨#[]⟩ : ByteArray),false,t33,(mput a3vv_2m (a0 ++ t20) (IntKind.i64.wrap (((mget a3vv_2m (a0 ++ t20)).getD (0 : Int)) + 1))))) else (weirlaw14_name.f (gt (gt a2v.Next t5) a1.Loc) >>= (fun t74 => some ((t74,true,t33,(mput a3vv_2m (a0 ++ t20) (IntKind.i64.wrap (((mget a3vv_2m (a0 ++ t20)).getD (0 : Int)) + 1))))))))) else none) else none))) else none))))))))
theorem weirlaw14_Net__machine_2.ok {a0 : ByteArray} {a1 : api_Pick} {a2v : weirlaw14_Net} {a3vv_0m a3vv_1m a3vv_2m : List (ByteArray × Int)} {a3vv_3 : Bool} {ba2 : Nat} {y10 : Option Addr} {y11 : Nat} {y12 : Option Addr} {y13 : Nat} {y14 : Option Addr} {y15 ba3 : Nat} {ba3v ba3vv_0 : Nat} {ba3vv_1 ba3vv_2 : Nat} {q0 : ByteArray} {q1 q2 : Bool} {q3 : List (ByteArray × Int)} (hp0 : weirlaw14_Net__machine_2.f a0 a1 a2v a3vv_0m a3vv_1m a3vv_2m a3vv_3 = some (q0,q1,q2,q3)) (hS0 : St w0 Z (xblk ba2 26 ([.slice y10 a2v.Next.length y11,.slice y12 a2v.End.length y13,.slice y14 a2v.Value.length y15,.int .i64 a2v.Start])::xblk ba3 33 ([.pointer (some ⟨ba3v,0,none⟩)])::xblk ba3v 49 ([.map (some ba3vv_0),.map (some ba3vv_1),.map (some ba3vv_2),.bool a3vv_3])::xmap ba3vv_0 (a3vv_0m.map (kv Value.string (Value.int .i64)))::xmap ba3vv_1 (a3vv_1m.map (kv Value.string (Value.int .i64)))::xmap ba3vv_2 (a3vv_2m.map (kv Value.string (Value.int .i64)))::fs) w) (y16 : SlZ (repL (flat (encI .i64)) 1) 1 Z y10 y11 a2v.Next) (y17 : SlZ (flat encB) 1 Z y12 y13 a2v.End) (y18 : SlZ (flat (encI .i64)) 1 Z y14 y15 a2v.Value) :
    Calls Try.prog 31 #[.string a0,.agg (enc_api_Pick a1).toArray,.pointer (some ⟨ba2,0,none⟩),.pointer (some ⟨ba3,0,none⟩)] w (fun e w' => e = .returned (.tuple #[.string q0,.bool q1]) ∧ St w0 Z (xblk ba2 26 ([.slice y10 a2v.Next.length y11,.slice y12 a2v.End.length y13,.slice y14 a2v.Value.length y15,.int .i64 a2v.Start])::xblk ba3 33 ([.pointer (some ⟨ba3v,0,none⟩)])::xblk ba3v 49 ([.map (some ba3vv_0),.map (some ba3vv_1),.map (some ba3vv_2),.bool q2])::xmap ba3vv_0 (a3vv_0m.map (kv Value.string (Value.int .i64)))::xmap ba3vv_1 (a3vv_1m.map (kv Value.string (Value.int .i64)))::xmap ba3vv_2 (q3.map (kv Value.string (Value.int .i64)))::fs) w'):=by
  refine calls_abs ?_; intro R hR
  unfold weirlaw14_Net__machine_2.f at hp0
  refine calls_of_runs (fn:=Try.f31) (c:=cd31 []) Try.func31 (by kernel_rfl) (al:=[.string a0,.agg (enc_api_Pick a1).toArray,.pointer (some ⟨ba2,0,none⟩),.pointer (some ⟨ba3,0,none⟩)]) rfl (n:=81) rfl ?_
  refine sR 2 [.inRegion (opsOf (cd31 [0])) [0,1,2],.code (cd31 [1])] ?_
  refine r_box (c:=(cd31 [0])) (i:=0) (d:=(some 5)) (ty:=0) (x:=(.tmp 1)) (v:=.agg (enc_api_Pick a1).toArray) (t:=88) (cs:=enc_api_Pick a1) hS0 (by kernel_rfl) (by kernel_rfl) (by kernel_rfl) (by kernel_rfl) ?_
  intro b1 w2 hS3
  refine sR 5 [iR (cd31 [1,0]) 0 4,.code (cd31 [1,1])] ?_
  refine rLa 26 (.tmp 2) (hS3.blk 1 rfl) ?_
  refine sR 1 [.inRegion (opsOf (cd31 [1,0])) [2,3],.code (cd31 [1,1])] ?_
  obtain ⟨t5,hr6,hp7⟩:=bind_some' hp0
  refine rC (weirlaw14_Net__number.ok hr6 hS3 y16 y17 y18) ?_
  rintro _ w8 ⟨rfl,hS9⟩
  refine ⟨_,rfl,?_⟩
  refine sR 4 [.code p31_4,.code (cd31 [1,1,0,1]),.code p31_6] ?_
  obtain ⟨v10,hv11,hp12⟩:=bind_some' hp7
  have J16 : ∀ (t13 : Bool) (he18 : t13 = v10) (l17 : List Value) (w14 : World) (hS15 : St w0 Z (xblk ba2 26 ([.slice y10 a2v.Next.length y11,.slice y12 a2v.End.length y13,.slice y14 a2v.Value.length y15,.int .i64 a2v.Start])::xblk ba3 33 ([.pointer (some ⟨ba3v,0,none⟩)])::xblk ba3v 49 ([.map (some ba3vv_0),.map (some ba3vv_1),.map (some ba3vv_2),.bool a3vv_3])::xmap ba3vv_0 (a3vv_0m.map (kv Value.string (Value.int .i64)))::xmap ba3vv_1 (a3vv_1m.map (kv Value.string (Value.int .i64)))::xmap ba3vv_2 (a3vv_2m.map (kv Value.string (Value.int .i64)))::xblk b1 88 (enc_api_Pick a1)::fs) w14),Runs Try.prog (fx 31) [.code (cd31 [1,1,0,1]),.code p31_6] (fill (mk 85 [(0,.string a0),(2,.pointer (some ⟨ba2,0,none⟩)),(3,.pointer (some ⟨ba3,0,none⟩)),(5,.pointer (some ⟨b1,0,none⟩)),(8,.int .i64 t5),(39,.bool t13)]) l17) w14 R:=by
   intro t13 he18 l17 w14 hS15
   subst he18
   try dsimp only at hp12
   cases t13
   ·have hp19:=ite_f hp12 rfl
    refine sR 6 [iR (cd31 [1,1,1,0]) 2 4,.code (cd31 [1,1,1,1])] ?_
    refine rL1 3 (.tmp 44) 2 (hS15.blk 6 rfl) ?_
    obtain ⟨t20,hr21,hp22⟩:=bind_some' hp19
    refine rC (weirlaw14_name.ok hr21 hS15) ?_
    rintro _ w23 ⟨rfl,hS24⟩
    refine ⟨_,rfl,?_⟩
    obtain ⟨g25,hp26⟩:=ite_some hp22
    refine rV (.binOp .add 9 (.tmp 43) (.tmp 46) 9) (.string (a0 ++ t20)) (fun o ho _ => x_concat (by kernel_rfl) (by kernel_rfl) g25 ho) ?_
    refine sR 4 [iR p31_9 0 8,.code p31_10] ?_
    refine rL1 33 (.tmp 3) 0 (hS24.blk 1 rfl) ?_
    refine sR 2 [iR p31_9 3 5,.code p31_10] ?_
    refine rL1 41 (.tmp 50) 2 (hS24.blk 2 rfl) ?_
    refine sR 1 [.inRegion (opsOf p31_9) [5,6,7],.code p31_10] ?_
    refine rV (.lookup 41 (.tmp 51) (.tmp 52) false) (.int .i64 ((mget a3vv_2m (a0 ++ t20)).getD (0 : Int))) (fun o ho _ => x_lookup1 (eK:=Value.string) (eV:=(Value.int .i64)) (dk:=.string) (b:=ba3vv_2) (t:=41) (kt:=9) (et:=3) (m:=a3vv_2m) (kk:=(a0 ++ t20)) (z:=(0 : Int)) (hS24.at 5 rfl) key_str (by kernel_rfl) (by kernel_rfl) (by kernel_rfl) (by kernel_rfl) (by kernel_rfl) ho) ?_
    refine sR 1 [.inRegion (opsOf p31_9) [7],.code p31_10] ?_
    have hS27:=hS24.pick5
    refine r_mapUpdate (c:=p31_9) (i:=7) (d:=none) (ty:=0) (eK:=Value.string) (eV:=(Value.int .i64)) (dk:=.string) (b:=ba3vv_2) (t:=41) (kt:=9) (et:=3) (x:=(.tmp 51)) (y:=(.tmp 52)) (z:=(.tmp 54)) (m:=a3vv_2m) (kk:=(a0 ++ t20)) (v:=(IntKind.i64.wrap (((mget a3vv_2m (a0 ++ t20)).getD (0 : Int)) + 1))) hS27 (by kernel_rfl) (by kernel_rfl) key_str (by kernel_rfl) (by kernel_rfl) (by kernel_rfl) (by kernel_rfl) (by kernel_rfl) ?_
    intro w28 hS29
    refine sR 4 (iR p31_11 0 7::td22) ?_
    refine rL1 33 (.tmp 3) 0 (hS29.blk 2 rfl) ?_
    refine sR 2 (iR p31_11 3 4::td22) ?_
    refine rL1 41 (.tmp 57) 2 (hS29.blk 3 rfl) ?_
    refine sR 1 (.inRegion (opsOf p31_11) [5,6]::td22) ?_
    refine rV (.lookup 41 (.tmp 58) (.tmp 59) false) (.int .i64 ((mget (mput a3vv_2m (a0 ++ t20) (IntKind.i64.wrap (((mget a3vv_2m (a0 ++ t20)).getD (0 : Int)) + 1))) (a0 ++ t20)).getD (0 : Int))) (fun o ho _ => x_lookup1 (eK:=Value.string) (eV:=(Value.int .i64)) (dk:=.string) (b:=ba3vv_2) (t:=41) (kt:=9) (et:=3) (m:=(mput a3vv_2m (a0 ++ t20) (IntKind.i64.wrap (((mget a3vv_2m (a0 ++ t20)).getD (0 : Int)) + 1)))) (kk:=(a0 ++ t20)) (z:=(0 : Int)) (hS29.at 0 rfl) key_str (by kernel_rfl) (by kernel_rfl) (by kernel_rfl) (by kernel_rfl) (by kernel_rfl) ho) ?_
    obtain ⟨v30,hv31,hp32⟩:=bind_some' hp26
    have J36 : ∀ (t33 : Bool) (he38 : t33 = v30) (l37 : List Value) (w34 : World) (hS35 : St w0 Z (xblk ba2 26 ([.slice y10 a2v.Next.length y11,.slice y12 a2v.End.length y13,.slice y14 a2v.Value.length y15,.int .i64 a2v.Start])::xblk b1 88 (enc_api_Pick a1)::xblk ba3 33 ([.pointer (some ⟨ba3v,0,none⟩)])::xblk ba3v 49 ([.map (some ba3vv_0),.map (some ba3vv_1),.map (some ba3vv_2),.bool t33])::xmap ba3vv_0 (a3vv_0m.map (kv Value.string (Value.int .i64)))::xmap ba3vv_1 (a3vv_1m.map (kv Value.string (Value.int .i64)))::xmap ba3vv_2 ((mput a3vv_2m (a0 ++ t20) (IntKind.i64.wrap (((mget a3vv_2m (a0 ++ t20)).getD (0 : Int)) + 1))).map (kv Value.string (Value.int .i64)))::fs) w34),Runs Try.prog (fx 31) td21 (fill (mk 85 [(2,.pointer (some ⟨ba2,0,none⟩)),(5,.pointer (some ⟨b1,0,none⟩)),(8,.int .i64 t5)]) l37) w34 R:=by
     intro t33 he38 l37 w34 hS35
     subst he38
     try dsimp only at hp32
     refine sR 1 [.code p31_14,.code (cd31 [1,1,1,1,1,1,1])] ?_
     refine r_quiet hS35 (c:=p31_14) (id:=9) (by kernel_rfl) (by kernel_rfl) (by kernel_rfl) (is:=[0,1,2,3,4,5,6,7,8,9]) (by kernel_rfl) ?_
     refine qR 1 (rg 1 9) ?_
     refine qL1 22 (.tmp 65) 0 (fun w hC => (hC.blk 0 rfl)) ?_
     refine qR 1 (rg 3 7) ?_
     obtain ⟨g39,hp40⟩:=ite_some hp32
     obtain ⟨b41,p42,cs45,hA43,hr46,hl47,hc44⟩:=y16.at_ g39.1 g39.2
     obtain ⟨A48,c49,rfl,hs50⟩:=hr46
     refine q_indexAddr (c:=p31_14) (i:=3) (d:=(some 68)) (ty:=0) (t:=22) (e:=37) (n:=a2v.Next.length) (cp:=y11) (sz:=1) (kk:=.i64) (x:=(.tmp 66)) (y:=(.tmp 67)) (b:=b41) (o':=p42) (j:=t5) (by kernel_rfl) (by kernel_rfl) (slv (by kernel_rfl) hA43) (by kernel_rfl) (by kernel_rfl) (by kernel_rfl) g39.1 g39.2 ?_
     refine qL1 37 (.tmp 68) 0 (fun w hC => (hc44.cells hC)) ?_
     refine qR 1 (rg 6 4) ?_
     refine qL1 3 (.tmp 70) 2 (fun w hC => (hC.blk 1 rfl)) ?_
     obtain ⟨g52,hp53⟩:=ite_some hp40
     obtain ⟨b54,p55,hA56,hc57⟩:=hs50.atF g52.1 g52.2
     refine q_indexAddr (c:=p31_14) (i:=7) (d:=(some 72)) (ty:=0) (t:=37) (e:=3) (n:=(gt a2v.Next t5).length) (cp:=c49) (sz:=1) (kk:=.i64) (x:=(.tmp 69)) (y:=(.tmp 71)) (b:=b54) (o':=p55) (j:=a1.Loc) (by kernel_rfl) (by kernel_rfl) (slv (by kernel_rfl) hA56) (by kernel_rfl) (by kernel_rfl) (by kernel_rfl) g52.1 g52.2 ?_
     refine qL1 3 (.tmp 72) 0 (fun w hC => (hc57.cells hC)) ?_
     refine qR 1 [] ?_
     refine Qs.nil ?_
     intro w58 hS59
     refine sI 5 (iR p31_16 2 7::td23) 75 hp53 (fun hp62 => ?_) fun hp66 => ?_
     ·refine sR 14 [.code p31_19,.code p31_18] ?_
      have hS63:=hS59.pick1
      have hS64:=hS63.drop
      refine rR (.tuple #[.string (⟨#[]⟩ : ByteArray),.bool false]) Try.func31 ?_
      cases Option.some.inj hp62
      exact hR _ _ ⟨rfl,hS64⟩
     refine sR 3 (iR p31_16 5 4::td23) ?_
     refine rL1 22 (.tmp 78) 0 (hS59.blk 0 rfl) ?_
     refine sI 2 (.inRegion (opsOf p31_16) [8]::td23) 81 hp66 (fun hp69 => ?_) fun hp73 => ?_
     ·refine sR 8 [.code p31_19,.code p31_18] ?_
      have hS70:=hS59.pick1
      have hS71:=hS70.drop
      refine rR (.tuple #[.string (⟨#[]⟩ : ByteArray),.bool false]) Try.func31 ?_
      cases Option.some.inj hp69
      exact hR _ _ ⟨rfl,hS71⟩
     refine sR 7 [.inRegion (opsOf (cd31 [1,1,1,1,1,1,1,1,0])) [1,2,3],.code p31_21] ?_
     obtain ⟨t74,hr75,hp76⟩:=bind_some' hp73
     refine rC (weirlaw14_name.ok hr75 hS59) ?_
     rintro _ w77 ⟨rfl,hS78⟩
     refine ⟨_,rfl,?_⟩
     refine sR 3 [.code p31_21] ?_
     have hS79:=hS78.pick1
     have hS80:=hS79.drop
     refine rR (.tuple #[.string t74,.bool true]) Try.func31 ?_
     cases Option.some.inj hp76
     exact hR _ _ ⟨rfl,hS80⟩
    refine sI 1 (.inRegion (opsOf p31_11) []::td22) 61 hv31 (fun hp84 => ?_) fun hp95 => ?_
    ·refine sR 3 (iR (cd31 [1,1,1,1,1,0,1,0]) 0 4::td21) ?_
     refine rL1 33 (.tmp 3) 0 (hS29.blk 2 rfl) ?_
     refine sR 2 (.inRegion (opsOf (cd31 [1,1,1,1,1,0,1,0])) [3]::td21) ?_
     have hS85:=hS29.pick3
     refine rS 4 (.tmp 64) (.const (.bool true)) 3 (.bool true) [.bool true] [.map (some ba3vv_0),.map (some ba3vv_1),.map (some ba3vv_2),.bool true] hS85 ?_
     intro w86 hS87
     refine sR 1 td21 ?_
     have hS88:=hS87.pick1
     have hS89:=hS88.pick5
     have hS90:=hS89.pick5
     have hS91:=hS90.pick3
     have hS92:=hS91.pick5
     have hS93:=hS92.pick6
     have hS94:=hS93.pick6
     exact rF _ (J36 true (Option.some.inj hp84) _ _ hS94)
    refine sR 3 td21 ?_
    have hS96:=hS29.pick5
    have hS97:=hS96.pick5
    have hS98:=hS97.pick5
    have hS99:=hS98.pick5
    have hS100:=hS99.pick6
    have hS101:=hS100.pick6
    exact rF _ (J36 a3vv_3 (Option.some.inj hp95) _ _ hS101)
   have hp102:=ite_t hp12 rfl
   refine sR 3 [iR (cd31 [1,1,0,1,0,0]) 0 4,.code (cd31 [1,1,0,1,0,1]),.code p31_6] ?_
   refine rL1 33 (.tmp 3) 0 (hS15.blk 1 rfl) ?_
   refine sR 2 [.inRegion (opsOf (cd31 [1,1,0,1,0,0])) [3],.code (cd31 [1,1,0,1,0,1]),.code p31_6] ?_
   have hS103:=hS15.pick2
   refine rS 4 (.tmp 42) (.const (.bool true)) 3 (.bool true) [.bool true] [.map (some ba3vv_0),.map (some ba3vv_1),.map (some ba3vv_2),.bool true] hS103 ?_
   intro w104 hS105
   refine sR 6 [.code (cd31 [1,1,0,1,0,1,1]),.code p31_6] ?_
   have hS106:=hS105.pick6
   have hS107:=hS106.drop
   have hS108:=hS107.pick5
   have hS109:=hS108.pick5
   have hS110:=hS109.pick5
   have hS111:=hS110.pick3
   have hS112:=hS111.pick5
   have hS113:=hS112.pick5
   refine rR (.tuple #[.string (⟨#[]⟩ : ByteArray),.bool false]) Try.func31 ?_
   cases Option.some.inj hp102
   exact hR _ _ ⟨rfl,hS113⟩
  refine r_quiet hS9 (c:=p31_4) (id:=2) (by kernel_rfl) (by kernel_rfl) (by kernel_rfl) (is:=[0,1,2,3,4,5,6,7,8,9,10,11,12,13,14,15,16,17,18,19,20,21,22,23,24,25]) (by kernel_rfl) ?_
  refine qI 2 (rg 2 24) 15 hv11 (fun hp117 => ?_) fun hp126 => ?_
  ·refine qR 24 [] ?_
   refine Qs.nil ?_
   intro w118 hS119
   have hS120:=hS119.pick6
   have hS121:=hS120.pick6
   have hS122:=hS121.pick6
   have hS123:=hS122.pick6
   have hS124:=hS123.pick6
   have hS125:=hS124.pick6
   exact rF _ (J16 true (Option.some.inj hp117) _ _ hS125)
  refine qR 2 (rg 4 22) ?_
  refine qL1 3 (.tmp 17) 2 (fun w hC => (hC.blk 0 rfl)) ?_
  refine qI 1 (rg 6 20) 19 hp126 (fun hp129 => ?_) fun hp138 => ?_
  ·refine qR 20 [] ?_
   refine Qs.nil ?_
   intro w130 hS131
   have hS132:=hS131.pick6
   have hS133:=hS132.pick6
   have hS134:=hS133.pick6
   have hS135:=hS134.pick6
   have hS136:=hS135.pick6
   have hS137:=hS136.pick6
   exact rF _ (J16 true (Option.some.inj hp129) _ _ hS137)
  refine qR 3 (rg 9 17) ?_
  refine qL1 3 (.tmp 22) 2 (fun w hC => (hC.blk 0 rfl)) ?_
  refine qR 1 (rg 11 15) ?_
  refine qL1 22 (.tmp 24) 0 (fun w hC => (hC.blk 1 rfl)) ?_
  refine qR 1 (rg 13 13) ?_
  obtain ⟨g139,hp140⟩:=ite_some hp138
  obtain ⟨b141,p142,cs145,hA143,hr146,hl147,hc144⟩:=y16.at_ g139.1 g139.2
  obtain ⟨A148,c149,rfl,hs150⟩:=hr146
  refine q_indexAddr (c:=p31_4) (i:=13) (d:=(some 27)) (ty:=0) (t:=22) (e:=37) (n:=a2v.Next.length) (cp:=y11) (sz:=1) (kk:=.i64) (x:=(.tmp 25)) (y:=(.tmp 26)) (b:=b141) (o':=p142) (j:=t5) (by kernel_rfl) (by kernel_rfl) (slv (by kernel_rfl) hA143) (by kernel_rfl) (by kernel_rfl) (by kernel_rfl) g139.1 g139.2 ?_
  refine qL1 37 (.tmp 27) 0 (fun w hC => (hc144.cells hC)) ?_
  refine qI 2 (rg 17 9) 30 hp140 (fun hp154 => ?_) fun hp163 => ?_
  ·refine qR 9 [] ?_
   refine Qs.nil ?_
   intro w155 hS156
   have hS157:=hS156.pick6
   have hS158:=hS157.pick6
   have hS159:=hS158.pick6
   have hS160:=hS159.pick6
   have hS161:=hS160.pick6
   have hS162:=hS161.pick6
   exact rF _ (J16 true (Option.some.inj hp154) _ _ hS162)
  refine qR 2 (rg 19 7) ?_
  refine qLa 88 (.tmp 5) (fun w hC => (hC.blk 0 rfl)) ?_
  refine qR 2 (rg 22 4) ?_
  refine qL1 3 (.tmp 35) 2 (fun w hC => (hC.blk 0 rfl)) ?_
  obtain ⟨t164,hr165,hp166⟩:=bind_some' hp163
  refine q_call1 (c:=p31_4) (i:=23) (d:=(some 37)) (v:=.agg (enc_api_Pick t164).toArray) (g:=30) (args:=#[.int .i64 t5,.int .i64 a1.Loc]) (by kernel_rfl) (by kernel_rfl) (by kernel_rfl) (by kernel_rfl) (fun w hC => by
   refine (weirlaw14_pick.ok hr165 hC).mono ?_
   rintro e w2 ⟨rfl,h2⟩
   have hS167:=h2.pick6
   have hS168:=hS167.pick6
   have hS169:=hS168.pick6
   have hS170:=hS169.pick6
   have hS171:=hS170.pick6
   have hS172:=hS171.pick6
   have hS173:=hS172.pick6
   exact ⟨rfl,hS173⟩) ?_
  refine qV (.binOp .neq 88 (.tmp 33) (.tmp 37) 88) (.bool (!(decide (a1 = t164)))) (fun w hC o ho _ => x_neq_api_Pick (by kernel_rfl) (by kernel_rfl) ho) ?_
  refine q_split (!(decide (a1 = t164))) (fun h174 => ?_) (fun h175 => ?_)
  ·have hp176:=ite_t hp166 h174
   refine qR 1 [] ?_
   refine Qs.nil ?_
   intro w177 hS178
   have hS179:=hS178.pick6
   have hS180:=hS179.pick6
   have hS181:=hS180.pick6
   have hS182:=hS181.pick6
   have hS183:=hS182.pick6
   have hS184:=hS183.pick6
   exact rF _ (J16 true (Option.some.inj hp176) _ _ hS184)
  have hp185:=ite_f hp166 h175
  refine qR 1 [] ?_
  refine Qs.nil ?_
  intro w186 hS187
  have hS188:=hS187.pick6
  have hS189:=hS188.pick6
  have hS190:=hS189.pick6
  have hS191:=hS190.pick6
  have hS192:=hS191.pick6
  have hS193:=hS192.pick6
  exact rF _ (J16 false (Option.some.inj hp185) _ _ hS193)

noncomputable def cd45 (p : List Nat) : Code := sub (bodyOf Try.f45) p
abbrev p45_9:=cd45 [1,1,0,1,0,0,1,1,0,0,0]
abbrev p45_12:=cd45 [1,1,0,1,0,0,1,1,0,0,1,0]
abbrev p45_13:=cd45 [1,1,0,1,0,0,1,1,0,0,1,1]
abbrev p45_15:=cd45 [1,1,0,1,0,0,1,1,0,0,1,1,1,0]
abbrev td24:List Item:=[.code (cd45 [1,1,1])]
abbrev td25:List Item:=.inBlock 0::td24
abbrev td26:List Item:=.inLoop (cd45 [1,1,0,1,0,0])::td25
abbrev td27:List Item:=.code (cd45 [1,1,0,1,0,0])::td26
abbrev td28:List Item:=.code (cd45 [1,1,0,1,0,0,1,1,1])::td26
abbrev td29:List Item:=.inBlock 1::td28
def explore_moves.l0 (a0_1c0vv_1m : List (ByteArray × Int)) (a0_1c1v : weirlaw14_Net) (a1 : ByteArray) (t5 : List api_Pick) (t7 : List (ByteArray × Int)) (t39 : List explore_edge) (t43 : Int) (t44 : Bool) (t45 : List (ByteArray × Int)) : Option ((List explore_edge) × Bool × (List (ByteArray × Int))) :=
  (if (decide (t43 < (t5.length : Int))) = true then (if 0 ≤ t43 ∧ t43 < (t5.length : Int) then (weirlaw14_Net__machine_2.f a1 (gt t5 t43) a0_1c1v t7 a0_1c0vv_1m t45 t44 >>= (fun (t70,t71,t72,t73) => (if t71 = true then (if (t39.length + ([(⟨(gt t5 t43),t70⟩ : explore_edge)] : List explore_edge).length) * 40 ≤ 140737488355328 then (explore_moves.l0 a0_1c0vv_1m a0_1c1v a1 t5 t7 (t39 ++ ([(⟨(gt t5 t43),t70⟩ : explore_edge)] : List explore_edge)) (IntKind.i64.wrap (t43 + 1)) t72 t73) else none) else (explore_moves.l0 a0_1c0vv_1m a0_1c1v a1 t5 t7 (id t39) (IntKind.i64.wrap (t43 + 1)) t72 t73)))) else none) else some ((t39,t44,t45)))
 partial_fixpoint
def explore_moves.f (y9 : ByteArray) (a0_1c0vv_0m a0_1c0vv_1m a0_1c0vv_2m : List (ByteArray × Int)) (a0_1c0vv_3 : Bool) (a0_1c1v : weirlaw14_Net) (a1 : ByteArray) : Option ((List explore_edge) × Bool × (List (ByteArray × Int)) × (List (ByteArray × Int))) :=
  (weirlaw14_Net__machine_1.f a1 a0_1c0vv_0m a0_1c0vv_1m a0_1c0vv_2m a0_1c0vv_3 a0_1c1v >>= (fun (t5,t6,t7) => (explore_moves.l0 a0_1c0vv_1m a0_1c1v a1 t5 t7 [] 0 t6 a0_1c0vv_2m >>= (fun (t27,t31,t32) => some ((t27,t31,t7,t32))))))
theorem explore_moves.ok {y9 : ByteArray} {a0_1c0vv_0m a0_1c0vv_1m a0_1c0vv_2m : List (ByteArray × Int)} {a0_1c0vv_3 : Bool} {a0_1c1v : weirlaw14_Net} {a1 : ByteArray} {ba0_1c0 ba0_1c0v : Nat} {ba0_1c0vv_0 ba0_1c0vv_1 : Nat} {ba0_1c0vv_2 ba0_1c1 : Nat} {Aa0_1c1v_0 : Option Addr} {ca0_1c1v_0 : Nat} {Aa0_1c1v_1 : Option Addr} {ca0_1c1v_1 : Nat} {Aa0_1c1v_2 : Option Addr} {ca0_1c1v_2 : Nat} {q0 : List explore_edge} {q1 : Bool} {q2 q3 : List (ByteArray × Int)} (hp0 : explore_moves.f y9 a0_1c0vv_0m a0_1c0vv_1m a0_1c0vv_2m a0_1c0vv_3 a0_1c1v a1 = some (q0,q1,q2,q3)) (hS0 : St w0 Z (xblk ba0_1c0 33 ([.pointer (some ⟨ba0_1c0v,0,none⟩)])::xblk ba0_1c0v 49 ([.map (some ba0_1c0vv_0),.map (some ba0_1c0vv_1),.map (some ba0_1c0vv_2),.bool a0_1c0vv_3])::xmap ba0_1c0vv_0 (a0_1c0vv_0m.map (kv Value.string (Value.int .i64)))::xmap ba0_1c0vv_1 (a0_1c0vv_1m.map (kv Value.string (Value.int .i64)))::xmap ba0_1c0vv_2 (a0_1c0vv_2m.map (kv Value.string (Value.int .i64)))::xblk ba0_1c1 26 ([.slice Aa0_1c1v_0 a0_1c1v.Next.length ca0_1c1v_0,.slice Aa0_1c1v_1 a0_1c1v.End.length ca0_1c1v_1,.slice Aa0_1c1v_2 a0_1c1v.Value.length ca0_1c1v_2,.int .i64 a0_1c1v.Start])::fs) w) (ha0_1c1v_0 : SlZ (repL (flat (encI .i64)) 1) 1 Z Aa0_1c1v_0 ca0_1c1v_0 a0_1c1v.Next) (ha0_1c1v_1 : SlZ (flat encB) 1 Z Aa0_1c1v_1 ca0_1c1v_1 a0_1c1v.End) (ha0_1c1v_2 : SlZ (flat (encI .i64)) 1 Z Aa0_1c1v_2 ca0_1c1v_2 a0_1c1v.Value) :
    Calls Try.prog 45 #[.agg #[.string y9,.func (.func 28) #[] #[.pointer (some ⟨ba0_1c0,0,none⟩),.pointer (some ⟨ba0_1c1,0,none⟩)],.func (.func 31) #[] #[.pointer (some ⟨ba0_1c1,0,none⟩),.pointer (some ⟨ba0_1c0,0,none⟩)],.func (.func 32) #[] #[.pointer (some ⟨ba0_1c0,0,none⟩),.pointer (some ⟨ba0_1c1,0,none⟩)]],.string a1] w (fun e w' => ∃ (QA0 : Option Addr) (Qc0 : Nat),e = .returned (.slice QA0 q0.length Qc0) ∧ St w0 Z (xrow QA0 Qc0 122 4 (q0.flatMap enc_explore_edge)::xblk ba0_1c0 33 ([.pointer (some ⟨ba0_1c0v,0,none⟩)])::xblk ba0_1c0v 49 ([.map (some ba0_1c0vv_0),.map (some ba0_1c0vv_1),.map (some ba0_1c0vv_2),.bool q1])::xmap ba0_1c0vv_0 (q2.map (kv Value.string (Value.int .i64)))::xmap ba0_1c0vv_1 (a0_1c0vv_1m.map (kv Value.string (Value.int .i64)))::xmap ba0_1c0vv_2 (q3.map (kv Value.string (Value.int .i64)))::xblk ba0_1c1 26 ([.slice Aa0_1c1v_0 a0_1c1v.Next.length ca0_1c1v_0,.slice Aa0_1c1v_1 a0_1c1v.End.length ca0_1c1v_1,.slice Aa0_1c1v_2 a0_1c1v.Value.length ca0_1c1v_2,.int .i64 a0_1c1v.Start])::fs) w'):=by
  refine calls_abs ?_; intro R hR
  unfold explore_moves.f at hp0
  refine calls_of_runs (fn:=Try.f45) (c:=cd45 []) Try.func45 (by kernel_rfl) (al:=[.agg #[.string y9,.func (.func 28) #[] #[.pointer (some ⟨ba0_1c0,0,none⟩),.pointer (some ⟨ba0_1c1,0,none⟩)],.func (.func 31) #[] #[.pointer (some ⟨ba0_1c1,0,none⟩),.pointer (some ⟨ba0_1c0,0,none⟩)],.func (.func 32) #[] #[.pointer (some ⟨ba0_1c0,0,none⟩),.pointer (some ⟨ba0_1c1,0,none⟩)]],.string a1]) rfl (n:=34) rfl ?_
  refine sR 2 [.inRegion (opsOf (cd45 [0])) [0,1],.code (cd45 [1])] ?_
  refine r_box (c:=(cd45 [0])) (i:=0) (d:=(some 2)) (ty:=0) (x:=(.tmp 0)) (v:=.agg #[.string y9,.func (.func 28) #[] #[.pointer (some ⟨ba0_1c0,0,none⟩),.pointer (some ⟨ba0_1c1,0,none⟩)],.func (.func 31) #[] #[.pointer (some ⟨ba0_1c1,0,none⟩),.pointer (some ⟨ba0_1c0,0,none⟩)],.func (.func 32) #[] #[.pointer (some ⟨ba0_1c0,0,none⟩),.pointer (some ⟨ba0_1c1,0,none⟩)]]) (t:=32) (cs:=[.string y9,.func (.func 28) #[] #[.pointer (some ⟨ba0_1c0,0,none⟩),.pointer (some ⟨ba0_1c1,0,none⟩)],.func (.func 31) #[] #[.pointer (some ⟨ba0_1c1,0,none⟩),.pointer (some ⟨ba0_1c0,0,none⟩)],.func (.func 32) #[] #[.pointer (some ⟨ba0_1c0,0,none⟩),.pointer (some ⟨ba0_1c1,0,none⟩)]]) hS0 (by kernel_rfl) (by kernel_rfl) (by kernel_rfl) (by kernel_rfl) ?_
  intro b1 w2 hS3
  refine sR 10 (iR (cd45 [1,1,0,0]) 1 5::.code (cd45 [1,1,0,1])::td24) ?_
  refine rL1 28 (.tmp 10) 1 (hS3.blk 0 rfl) ?_
  refine sR 1 (.inRegion (opsOf (cd45 [1,1,0,0])) [3,4,5]::.code (cd45 [1,1,0,1])::td24) ?_
  obtain ⟨⟨t5,t6,t7⟩,hr10,hp11⟩:=bind_some' hp0
  try dsimp only at hp11
  have hS16:=hS3.pick6
  have hS17:=hS16.pick6
  have hS18:=hS17.pick6
  have hS19:=hS18.pick6
  have hS20:=hS19.pick6
  have hS21:=hS20.pick6
  refine rC (weirlaw14_Net__machine_1.ok hr10 hS21 ha0_1c1v_0 ha0_1c1v_1 ha0_1c1v_2) ?_
  rintro _ w22 ⟨Q8,Q9,rfl,hS23⟩
  refine ⟨_,rfl,?_⟩
  refine sR 5 td27 ?_
  obtain ⟨v24,hv25,hp26⟩:=bind_some' hp11
  have J35 : ∀ (t27 : List explore_edge) (t31 : Bool) (t32 : List (ByteArray × Int)) (he37 : (t27,t31,t32) = v24) (l36 : List Value) (A28 : Option Addr) (c29 : Nat) (w33 : World) (hS34 : St w0 Z (xrow A28 c29 122 4 (t27.flatMap enc_explore_edge)::xblk ba0_1c0 33 ([.pointer (some ⟨ba0_1c0v,0,none⟩)])::xblk ba0_1c0v 49 ([.map (some ba0_1c0vv_0),.map (some ba0_1c0vv_1),.map (some ba0_1c0vv_2),.bool t31])::xmap ba0_1c0vv_0 (t7.map (kv Value.string (Value.int .i64)))::xmap ba0_1c0vv_1 (a0_1c0vv_1m.map (kv Value.string (Value.int .i64)))::xmap ba0_1c0vv_2 (t32.map (kv Value.string (Value.int .i64)))::xblk ba0_1c1 26 ([.slice Aa0_1c1v_0 a0_1c1v.Next.length ca0_1c1v_0,.slice Aa0_1c1v_1 a0_1c1v.End.length ca0_1c1v_1,.slice Aa0_1c1v_2 a0_1c1v.Value.length ca0_1c1v_2,.int .i64 a0_1c1v.Start])::fs) w33),Runs Try.prog (fx 45) td24 (fill (mk 36 [(5,.slice A28 t27.length c29)]) l36) w33 R:=by
   intro t27 t31 t32 he37 l36 A28 c29 w33 hS34
   subst he37
   try dsimp only at hp26
   refine sR 5 [.code (cd45 [1,1,1,1])] ?_
   refine rR (.slice A28 t27.length c29) Try.func45 ?_
   cases Option.some.inj hp26
   exact hR _ _ ⟨A28,c29,rfl,hS34⟩
  have L54 : ∀ (t39 : List explore_edge) (t43 : Int) (t44 : Bool) (t45 : List (ByteArray × Int)) (e49 : ((List explore_edge) × Bool × (List (ByteArray × Int)))),explore_moves.l0 a0_1c0vv_1m a0_1c1v a1 t5 t7 t39 t43 t44 t45 = some e49 → e49 = v24 → ∀ (l48 : List Value) (A40 : Option Addr) (c41 : Nat) (w46 : World) (hS47 : St w0 Z (xblk b1 32 ([.string y9,.func (.func 28) #[] #[.pointer (some ⟨ba0_1c0,0,none⟩),.pointer (some ⟨ba0_1c1,0,none⟩)],.func (.func 31) #[] #[.pointer (some ⟨ba0_1c1,0,none⟩),.pointer (some ⟨ba0_1c0,0,none⟩)],.func (.func 32) #[] #[.pointer (some ⟨ba0_1c0,0,none⟩),.pointer (some ⟨ba0_1c1,0,none⟩)]])::xblk ba0_1c0 33 ([.pointer (some ⟨ba0_1c0v,0,none⟩)])::xblk ba0_1c0v 49 ([.map (some ba0_1c0vv_0),.map (some ba0_1c0vv_1),.map (some ba0_1c0vv_2),.bool t44])::xmap ba0_1c0vv_0 (t7.map (kv Value.string (Value.int .i64)))::xmap ba0_1c0vv_1 (a0_1c0vv_1m.map (kv Value.string (Value.int .i64)))::xmap ba0_1c0vv_2 (t45.map (kv Value.string (Value.int .i64)))::xblk ba0_1c1 26 ([.slice Aa0_1c1v_0 a0_1c1v.Next.length ca0_1c1v_0,.slice Aa0_1c1v_1 a0_1c1v.End.length ca0_1c1v_1,.slice Aa0_1c1v_2 a0_1c1v.Value.length ca0_1c1v_2,.int .i64 a0_1c1v.Start])::xrow A40 c41 122 4 (t39.flatMap enc_explore_edge)::xrow Q8 Q9 88 3 (t5.flatMap enc_api_Pick)::fs) w46),Runs Try.prog (fx 45) td27 (fill (mk 36 [(1,.string a1),(2,.pointer (some ⟨b1,0,none⟩)),(5,.slice A40 t39.length c41),(13,.slice Q8 t5.length Q9),(14,.int .i64 (t5.length : Int)),(15,.int .i64 t43)]) l48) w46 R:=by
   refine explore_moves.l0.partial_correctness a0_1c0vv_1m a0_1c1v a1 t5 t7 (fun t39 t43 t44 t45 e49 => e49 = v24 → ∀ (l48 : List Value) (A40 : Option Addr) (c41 : Nat) (w46 : World) (hS47 : St w0 Z (xblk b1 32 ([.string y9,.func (.func 28) #[] #[.pointer (some ⟨ba0_1c0,0,none⟩),.pointer (some ⟨ba0_1c1,0,none⟩)],.func (.func 31) #[] #[.pointer (some ⟨ba0_1c1,0,none⟩),.pointer (some ⟨ba0_1c0,0,none⟩)],.func (.func 32) #[] #[.pointer (some ⟨ba0_1c0,0,none⟩),.pointer (some ⟨ba0_1c1,0,none⟩)]])::xblk ba0_1c0 33 ([.pointer (some ⟨ba0_1c0v,0,none⟩)])::xblk ba0_1c0v 49 ([.map (some ba0_1c0vv_0),.map (some ba0_1c0vv_1),.map (some ba0_1c0vv_2),.bool t44])::xmap ba0_1c0vv_0 (t7.map (kv Value.string (Value.int .i64)))::xmap ba0_1c0vv_1 (a0_1c0vv_1m.map (kv Value.string (Value.int .i64)))::xmap ba0_1c0vv_2 (t45.map (kv Value.string (Value.int .i64)))::xblk ba0_1c1 26 ([.slice Aa0_1c1v_0 a0_1c1v.Next.length ca0_1c1v_0,.slice Aa0_1c1v_1 a0_1c1v.End.length ca0_1c1v_1,.slice Aa0_1c1v_2 a0_1c1v.Value.length ca0_1c1v_2,.int .i64 a0_1c1v.Start])::xrow A40 c41 122 4 (t39.flatMap enc_explore_edge)::xrow Q8 Q9 88 3 (t5.flatMap enc_api_Pick)::fs) w46),Runs Try.prog (fx 45) td27 (fill (mk 36 [(1,.string a1),(2,.pointer (some ⟨b1,0,none⟩)),(5,.slice A40 t39.length c41),(13,.slice Q8 t5.length Q9),(14,.int .i64 (t5.length : Int)),(15,.int .i64 t43)]) l48) w46 R) ?_
   intro rec53 ih52 t39 t43 t44 t45 e49 hb51 he50 l48 A40 c41 w46 hS47
   refine sI 3 (.inRegion (opsOf (cd45 [1,1,0,1,0,0,0])) []::.code (cd45 [1,1,0,1,0,0,1])::td26) 16 hb51 (fun hp57 => ?_) fun hp125 => ?_
   ·refine sR 8 (iR p45_9 0 4::.code (cd45 [1,1,0,1,0,0,1,1,0,0,1])::td29) ?_
    obtain ⟨g58,hp59⟩:=ite_some hp57
    obtain ⟨b60,p61,hA62,-⟩:=(hS47.row 8 rfl).at_ len_api_Pick (by omega) g58.1 g58.2
    refine r_indexAddr (c:=p45_9) (i:=0) (d:=(some 17)) (ty:=0) (t:=40) (e:=88) (n:=t5.length) (cp:=Q9) (sz:=3) (kk:=.i64) (x:=(.tmp 13)) (y:=(.tmp 15)) (b:=b60) (o':=p61) (j:=t43) (by kernel_rfl) (by kernel_rfl) (slv (by kernel_rfl) hA62) (by kernel_rfl) (by kernel_rfl) (by kernel_rfl) g58.1 g58.2 ?_
    refine rLa 88 (.tmp 17) ((hS47.row 8 rfl).at2 hA62 len_api_Pick (by omega) g58.1 g58.2) ?_
    refine rA 88 (.agg (enc_api_Pick (⟨0,0,0⟩ : api_Pick)).toArray) (enc_api_Pick (⟨0,0,0⟩ : api_Pick)) hS47 ?_
    intro b64 w65 hS66
    refine rSA 88 (.tmp 7) (.tmp 18) (enc_api_Pick (gt t5 t43)) hS66 (one_api_Pick _) ?_
    intro w68 hS69
    refine sR 4 (iR p45_12 1 9::.code p45_13::td29) ?_
    refine rL1 29 (.tmp 20) 2 (hS69.blk 1 rfl) ?_
    refine sR 1 (iR p45_12 3 7::.code p45_13::td29) ?_
    refine rLa 88 (.tmp 7) (hS69.blk 0 rfl) ?_
    obtain ⟨⟨t70,t71,t72,t73⟩,hr74,hp75⟩:=bind_some' hp59
    try dsimp only at hp75
    have hS79:=hS69.pick6
    have hS80:=hS79.pick6
    have hS81:=hS80.pick6
    have hS82:=hS81.pick6
    have hS83:=hS82.pick6
    have hS84:=hS83.pick7
    refine rC (weirlaw14_Net__machine_2.ok hr74 hS84 ha0_1c1v_0 ha0_1c1v_1 ha0_1c1v_2) ?_
    rintro _ w85 ⟨rfl,hS86⟩
    refine ⟨_,rfl,?_⟩
    refine sR 10 (.code (cd45 [1,1,0,1,0,0,1,1,0,0,1,1,1])::td29) ?_
    cases t71
    ·have hp87:=ite_f hp75 rfl
     refine sR 7 td26 ?_
     have hS88:=hS86.pick6
     have hS89:=hS88.drop
     have hS90:=hS89.pick8
     have hS91:=hS90.pick8
     have hS92:=hS91.pick2
     have hS93:=hS92.pick7
     have hS94:=hS93.pick7
     have hS95:=hS94.pick7
     have hS96:=hS95.pick7
     have hS97:=hS96.pick7
     have hS98:=hS97.pick8
     refine sR 1 td27 ?_
     exact rF _ (ih52 (id t39) (IntKind.i64.wrap (t43 + 1)) t72 t73 _ hp87 he50 _ A40 c41 _ hS98)
    have hp99:=ite_t hp75 rfl
    refine sR 3 (iR p45_15 1 6::td29) ?_
    refine rLa 88 (.tmp 7) (hS86.blk 6 rfl) ?_
    refine sR 2 (.inRegion (opsOf p45_15) [4,5,6]::td29) ?_
    refine r_lit (c:=p45_15) (i:=4) (d:=(some 32)) (ty:=120) (t:=120) (e:=122) (sz:=4) (n:=1) (parts:=#[(0,(.tmp 31))]) (vs:=[(0,.agg (enc_explore_edge (⟨(gt t5 t43),t70⟩ : explore_edge)).toArray)]) (z:=zeroOf Try.prog 122) (cs':=([(⟨(gt t5 t43),t70⟩ : explore_edge)] : List explore_edge).flatMap enc_explore_edge) hS86 (by kernel_rfl) (by kernel_rfl) (by kernel_rfl) (by kernel_rfl) (by kernel_rfl) (by decide) (by decide) (by kernel_rfl) rfl (Parts.cons (c:=enc_explore_edge (⟨(gt t5 t43),t70⟩ : explore_edge)) (by kernel_rfl) (len_explore_edge _) Parts.nil) rfl ?_
    intro b101 w102 hS103
    have hS104:=hS103.pick9
    obtain ⟨g105,hp106⟩:=ite_some hp99
    refine r_append (c:=p45_15) (i:=5) (d:=(some 33)) (ty:=120) (enc:=enc_explore_edge) (e:=122) (u:=122) (t:=120) (t2:=120) (sz:=4) (cp:=c41) (A:=A40) (bytes:=40) (xs:=t39) (ys:=([(⟨(gt t5 t43),t70⟩ : explore_edge)] : List explore_edge)) (s:=(.tmp 28)) (x:=(.tmp 32)) (xv:=.slice (some ⟨b101,0,none⟩) ([(⟨(gt t5 t43),t70⟩ : explore_edge)] : List explore_edge).length 1) (info:=infoOf Try.prog 122) (z:=zeroOf Try.prog 122) (ycs:=([(⟨(gt t5 t43),t70⟩ : explore_edge)] : List explore_edge).flatMap enc_explore_edge) hS104 (by kernel_rfl) (by kernel_rfl) (by kernel_rfl) (by kernel_rfl) (by kernel_rfl) (.inl (by kernel_rfl)) (by kernel_rfl) (by kernel_rfl) (by kernel_rfl) (by kernel_rfl) (by kernel_rfl) (by omega) len_explore_edge one_explore_edge (src_row (hS104.row 1 rfl) (by omega) len_explore_edge) rfl g105 (by omega) ?_
    intro A107 c108 w109 hS110
    refine sR 7 td26 ?_
    have hS112:=hS110.pick1
    have hS113:=hS112.drop
    have hS114:=hS113.pick7
    have hS115:=hS114.drop
    have hS116:=hS115.pick8
    have hS117:=hS116.pick1
    have hS118:=hS117.pick2
    have hS119:=hS118.pick7
    have hS120:=hS119.pick7
    have hS121:=hS120.pick7
    have hS122:=hS121.pick7
    have hS123:=hS122.pick7
    have hS124:=hS123.pick8
    refine sR 1 td27 ?_
    exact rF _ (ih52 (t39 ++ ([(⟨(gt t5 t43),t70⟩ : explore_edge)] : List explore_edge)) (IntKind.i64.wrap (t43 + 1)) t72 t73 _ hp106 he50 _ A107 c108 _ hS124)
   refine sR 4 td24 ?_
   have hS126:=hS47.drop
   have hS127:=hS126.pick7
   have hS128:=hS127.drop
   have hS129:=hS128.pick5
   have hS130:=hS129.pick5
   have hS131:=hS130.pick5
   have hS132:=hS131.pick5
   have hS133:=hS132.pick5
   have hS134:=hS133.pick5
   have hS135:=hS134.pick6
   exact rF _ (J35 t39 t44 t45 ((Option.some.inj hp125).trans he50) _ A40 c41 _ hS135)
  have hS137:=hS23.nilrow none 122 4
  have hS138:=hS137.pick1
  have hS139:=hS138.pick1
  have hS140:=hS139.pick7
  have hS141:=hS140.pick7
  have hS142:=hS141.pick7
  have hS143:=hS142.pick7
  have hS144:=hS143.pick7
  have hS145:=hS144.pick7
  have hS146:=hS145.pick8
  exact rF _ (L54 [] 0 t6 a0_1c0vv_2m _ hv25 rfl _ none 0 _ hS146)

noncomputable def cd47 (p : List Nat) : Code := sub (bodyOf Try.f47) p
def explore_all_1.f (a0 : ByteArray) (a1 : List explore_edge) (y19 : List ByteArray) (a2v_1m : List (ByteArray × (List explore_edge))) : Option (List (ByteArray × (List explore_edge))) :=
  some ((mput a2v_1m a0 a1))
theorem explore_all_1.ok (a0 : ByteArray) (a1 : List explore_edge) (y19 : List ByteArray) (a2v_1m : List (ByteArray × (List explore_edge))) (Aa1 : Option Addr) (ca1 ba2 : Nat) (y10 : Option Addr) (y11 y20 : Nat) (y21 : List (ByteArray × Hh × List explore_edge)) (y22 : Option Nat) (hS0 : St w0 Z (xblk ba2 109 ([.slice y10 y19.length y11,.map (some y20),.map y22])::xmap y20 (y21.map (kv Value.string eVH))::fs) w) (ha1 : SlZ (flat enc_explore_edge) 4 Z Aa1 ca1 a1) (y16 : SlZ (flat encS) 1 Z y10 y11 y19) (y23 : MZ enc_explore_edge 4 Z y21 a2v_1m) {q0 : List (ByteArray × (List explore_edge))} (hp0 : explore_all_1.f a0 a1 y19 a2v_1m = some q0) :
    Calls Try.prog 47 #[.string a0,.slice Aa1 a1.length ca1,.pointer (some ⟨ba2,0,none⟩)] w (fun e w' => ∃ (Qm0 : List (ByteArray × Hh × List explore_edge)),e = .returned (.tuple #[]) ∧ St w0 Z (xblk ba2 109 ([.slice y10 y19.length y11,.map (some y20),.map y22])::xmap y20 (Qm0.map (kv Value.string eVH))::fs) w' ∧ MZ enc_explore_edge 4 Z Qm0 q0):=by
  refine calls_abs ?_; intro R hR
  unfold explore_all_1.f at hp0
  refine calls_of_runs (fn:=Try.f47) (c:=cd47 []) Try.func47 (by kernel_rfl) (al:=[.string a0,.slice Aa1 a1.length ca1,.pointer (some ⟨ba2,0,none⟩)]) rfl (n:=6) rfl ?_
  refine sR 2 [iR (cd47 []) 1 4] ?_
  refine rL1 107 (.tmp 5) 1 (hS0.blk 0 rfl) ?_
  refine sR 2 [.inRegion (opsOf (cd47 [])) [4]] ?_
  have hS1:=hS0.pick1
  refine r_mapUpdate (c:=(cd47 [])) (i:=4) (d:=none) (ty:=0) (eK:=Value.string) (eV:=eVH) (dk:=.string) (b:=y20) (t:=107) (kt:=9) (et:=120) (x:=(.tmp 6)) (y:=(.tmp 7)) (z:=(.tmp 8)) (m:=y21) (kk:=a0) (v:=((Aa1,ca1),a1)) hS1 (by kernel_rfl) (by kernel_rfl) key_str (by kernel_rfl) (by kernel_rfl) (by kernel_rfl) (by kernel_rfl) (by kernel_rfl) ?_
  intro w2 hS3
  have hm4 : MZ enc_explore_edge 4 Z (mput y21 a0 ((Aa1,ca1),a1)) (mput a2v_1m a0 a1):=MZ.put y23 a0 ha1
  refine sR 1 [] ?_
  have hS5:=hS3.pick1
  refine runs_end (fn:=Try.f47) (v:=.tuple #[]) Try.func47 (by kernel_rfl) ?_
  cases Option.some.inj hp0
  exact hR _ _ ⟨(mput y21 a0 ((Aa1,ca1),a1)),rfl,hS5,hm4⟩

def explore_all_1_1.f (a0 : ByteArray) (a1 : List explore_edge) (y19 : List ByteArray) (a2v_1m : List (ByteArray × (List explore_edge))) : Option (List (ByteArray × (List explore_edge))) :=
  some ((mput a2v_1m a0 a1))
theorem explore_all_1_1.ok (a0 : ByteArray) (a1 : List explore_edge) (y19 : List ByteArray) (a2v_1m : List (ByteArray × (List explore_edge))) (Aa1 : Option Addr) (ca1 ba2 : Nat) (y10 : Option Addr) (y11 y20 : Nat) (y21 : List (ByteArray × Hh × List explore_edge)) (y22 : Option Nat) (hS0 : St w0 Z (xblk ba2 109 ([.slice y10 y19.length y11,.map (some y20),.map y22])::xrow y10 y11 9 1 (y19.flatMap encS)::xmap y20 (y21.map (kv Value.string eVH))::fs) w) (ha1 : SlZ (flat enc_explore_edge) 4 Z Aa1 ca1 a1) (y23 : MZ enc_explore_edge 4 Z y21 a2v_1m) {q0 : List (ByteArray × (List explore_edge))} (hp0 : explore_all_1_1.f a0 a1 y19 a2v_1m = some q0) :
    Calls Try.prog 47 #[.string a0,.slice Aa1 a1.length ca1,.pointer (some ⟨ba2,0,none⟩)] w (fun e w' => ∃ (Qm0 : List (ByteArray × Hh × List explore_edge)),e = .returned (.tuple #[]) ∧ St w0 Z (xblk ba2 109 ([.slice y10 y19.length y11,.map (some y20),.map y22])::xrow y10 y11 9 1 (y19.flatMap encS)::xmap y20 (Qm0.map (kv Value.string eVH))::fs) w' ∧ MZ enc_explore_edge 4 Z Qm0 q0):=by
  refine calls_abs ?_; intro R hR
  unfold explore_all_1_1.f at hp0
  refine calls_of_runs (fn:=Try.f47) (c:=cd47 []) Try.func47 (by kernel_rfl) (al:=[.string a0,.slice Aa1 a1.length ca1,.pointer (some ⟨ba2,0,none⟩)]) rfl (n:=6) rfl ?_
  refine sR 2 [iR (cd47 []) 1 4] ?_
  refine rL1 107 (.tmp 5) 1 (hS0.blk 0 rfl) ?_
  refine sR 2 [.inRegion (opsOf (cd47 [])) [4]] ?_
  have hS1:=hS0.pick2
  refine r_mapUpdate (c:=(cd47 [])) (i:=4) (d:=none) (ty:=0) (eK:=Value.string) (eV:=eVH) (dk:=.string) (b:=y20) (t:=107) (kt:=9) (et:=120) (x:=(.tmp 6)) (y:=(.tmp 7)) (z:=(.tmp 8)) (m:=y21) (kk:=a0) (v:=((Aa1,ca1),a1)) hS1 (by kernel_rfl) (by kernel_rfl) key_str (by kernel_rfl) (by kernel_rfl) (by kernel_rfl) (by kernel_rfl) (by kernel_rfl) ?_
  intro w2 hS3
  have hm4 : MZ enc_explore_edge 4 Z (mput y21 a0 ((Aa1,ca1),a1)) (mput a2v_1m a0 a1):=MZ.put y23 a0 ha1
  refine sR 1 [] ?_
  have hS5:=hS3.pick2
  have hS6:=hS5.pick2
  refine runs_end (fn:=Try.f47) (v:=.tuple #[]) Try.func47 (by kernel_rfl) ?_
  cases Option.some.inj hp0
  exact hR _ _ ⟨(mput y21 a0 ((Aa1,ca1),a1)),rfl,hS6,hm4⟩

abbrev td30:List Item:=[.inBlock 1]
abbrev td31:List Item:=.code p38_5::td30
abbrev td32:List Item:=.code (cd38 [1,1,0,1,0,1,0,0,1])::td31
def explore_all_r_1.f (a0 : ByteArray) (a1m : List (ByteArray × explore_visit)) (a2v3v : Int) (a2v5v : Bool) (a2v6v_0 : List ByteArray) (a2v6v_1m : List (ByteArray × (List explore_edge))) : Option (Int × Bool × (List ByteArray)) :=
  (if (decide ((a2v6v_0.length : Int) ≥ a2v3v)) = true then some ((1,false,a2v6v_0)) else (if (a2v6v_0.length + ([a0] : List ByteArray).length) * 16 ≤ 140737488355328 then some ((0,a2v5v,(a2v6v_0 ++ ([a0] : List ByteArray)))) else none))
theorem explore_all_r_1.ok (a0 : ByteArray) (a1m : List (ByteArray × explore_visit)) (a2v3v : Int) (a2v5v : Bool) (a2v6v_0 : List ByteArray) (a2v6v_1m : List (ByteArray × (List explore_edge))) (ba1 La2 Da2 : Nat) (la2 : List Value) (ba2v3 ba2v4 : Nat) (ba2v5 ba2v6 : Nat) (Aa2v6v_0 : Option Addr) (ca2v6v_0 ba2v6v_1 : Nat) (ma2v6v_1 : List (ByteArray × Hh × List explore_edge)) (wa2v6v_2 : Option Nat) (hS0 : St w0 Z (xmap ba1 (a1m.map (kv Value.string (fun v => Value.agg (enc_explore_visit v).toArray)))::xlp La2 38 (fill (mk 31 [(3,.pointer (some ⟨ba2v3,0,none⟩)),(4,.pointer (some ⟨ba2v4,0,none⟩)),(5,.pointer (some ⟨ba2v5,0,none⟩)),(6,.pointer (some ⟨ba2v6,0,none⟩))]) la2) #[14,15] p38_0 p38_1 Da2 [p38_2] 0::xblk ba2v3 3 ([.int .i64 a2v3v])::xblk ba2v4 109 ([.slice none 0 0,.map none,.map none])::xblk ba2v5 4 ([.bool a2v5v])::xblk ba2v6 109 ([.slice Aa2v6v_0 a2v6v_0.length ca2v6v_0,.map (some ba2v6v_1),.map wa2v6v_2])::xrow Aa2v6v_0 ca2v6v_0 9 1 (a2v6v_0.flatMap encS)::xmap ba2v6v_1 (ma2v6v_1.map (kv Value.string eVH))::fs) w) (hma2v6v_1 : MZ enc_explore_edge 4 Z ma2v6v_1 a2v6v_1m) {q0 : Int} {q1 : Bool} {q2 : List ByteArray} (hp0 : explore_all_r_1.f a0 a1m a2v3v a2v5v a2v6v_0 a2v6v_1m = some (q0,q1,q2)) :
    Rounds Try.prog La2 38 (fill (mk 31 [(3,.pointer (some ⟨ba2v3,0,none⟩)),(4,.pointer (some ⟨ba2v4,0,none⟩)),(5,.pointer (some ⟨ba2v5,0,none⟩)),(6,.pointer (some ⟨ba2v6,0,none⟩)),(14,.string a0),(15,.map (some ba1))]) la2).toArray p38_0 p38_1 w (fun e w' => ∃ (QA0 : Option Addr) (Qc0 : Nat) (Qv2 : Option Nat),e = .returned (.bool (decide (q0 = 0))) ∧ St w0 Z (xrow QA0 Qc0 9 1 (q2.flatMap encS)::xmap ba1 (a1m.map (kv Value.string (fun v => Value.agg (enc_explore_visit v).toArray)))::xlp La2 38 (fill (mk 31 [(3,.pointer (some ⟨ba2v3,0,none⟩)),(4,.pointer (some ⟨ba2v4,0,none⟩)),(5,.pointer (some ⟨ba2v5,0,none⟩)),(6,.pointer (some ⟨ba2v6,0,none⟩))]) la2) #[14,15] p38_0 p38_1 Da2 [p38_2] q0::xblk ba2v3 3 ([.int .i64 a2v3v])::xblk ba2v4 109 ([.slice none 0 0,.map none,.map none])::xblk ba2v5 4 ([.bool q1])::xblk ba2v6 109 ([.slice QA0 q2.length Qc0,.map (some ba2v6v_1),.map Qv2])::xmap ba2v6v_1 (ma2v6v_1.map (kv Value.string eVH))::fs) w'):=by
  refine rounds_abs ?_; intro R hR
  unfold explore_all_r_1.f at hp0
  refine rounds_of_runs ?_
  refine sR 7 [.beginRound,.code p38_1] ?_
  have hS1:=hS0.pick1
  refine r_begin hS1 ?_
  intro w2 hS3
  refine sR 5 (iR p38_3 1 4::td32) ?_
  refine rL1 36 (.tmp 16) 0 (hS3.blk 5 rfl) ?_
  refine sR 1 (.inRegion (opsOf p38_3) [3,4]::td32) ?_
  refine rL1 3 (.tmp 3) 0 (hS3.blk 2 rfl) ?_
  refine sI 1 (.inRegion (opsOf p38_3) []::td32) 20 hp0 (fun hp6 => ?_) fun hp26 => ?_
  ·refine sR 5 (.inRegion (opsOf (cd38 [1,1,0,1,0,1,0,0,1,0,0])) [1,2]::.code p38_2::td31) ?_
   have hS7:=hS3.pick3
   refine rS 109 (.tmp 4) (.tmp 21) 0 (.agg #[.slice none 0 0,.map none,.map none]) [.slice none 0 0,.map none,.map none] [.slice none 0 0,.map none,.map none] hS7 ?_
   intro w8 hS9
   have hS10:=hS9.pick4
   refine rS 4 (.tmp 5) (.const (.bool false)) 0 (.bool false) [.bool false] [.bool false] hS10 ?_
   intro w11 hS12
   refine sR 1 (.code p38_2::td31) ?_
   have hS13:=hS12.pick2
   refine r_rret hS13 [p38_2] 0 (by kernel_rfl) ?_
   intro w14 hS15
   have hS16 : St w0 Z (xlp La2 38 (fill (mk 31 [(3,.pointer (some ⟨ba2v3,0,none⟩)),(4,.pointer (some ⟨ba2v4,0,none⟩)),(5,.pointer (some ⟨ba2v5,0,none⟩)),(6,.pointer (some ⟨ba2v6,0,none⟩))]) la2) #[14,15] p38_0 p38_1 Da2 [p38_2] 1::xblk ba2v5 4 ([.bool false])::xblk ba2v4 109 ([.slice none 0 0,.map none,.map none])::xmap ba1 (a1m.map (kv Value.string (fun v => Value.agg (enc_explore_visit v).toArray)))::xblk ba2v3 3 ([.int .i64 a2v3v])::xblk ba2v6 109 ([.slice Aa2v6v_0 a2v6v_0.length ca2v6v_0,.map (some ba2v6v_1),.map wa2v6v_2])::xrow Aa2v6v_0 ca2v6v_0 9 1 (a2v6v_0.flatMap encS)::xmap ba2v6v_1 (ma2v6v_1.map (kv Value.string eVH))::fs) w14:=hS15
   have hS17:=hS16.pick7
   have hS18:=hS17.pick6
   have hS19:=hS18.pick3
   have hS20:=hS19.pick4
   have hS21:=hS20.pick6
   have hS22:=hS21.pick5
   have hS23:=hS22.pick6
   have hS24:=hS23.pick7
   cases Option.some.inj hp6
   exact hR _ _ ⟨Aa2v6v_0,ca2v6v_0,wa2v6v_2,rfl,hS24⟩
  refine sR 5 (iR p38_5 1 9::td30) ?_
  refine rL1 36 (.tmp 22) 0 (hS3.blk 5 rfl) ?_
  refine sR 1 (iR p38_5 3 7::td30) ?_
  refine r_lit (c:=p38_5) (i:=3) (d:=(some 25)) (ty:=36) (t:=36) (e:=9) (sz:=1) (n:=1) (parts:=#[(0,(.tmp 24))]) (vs:=[(0,.string a0)]) (z:=zeroOf Try.prog 9) (cs':=([a0] : List ByteArray).flatMap encS) hS3 (by kernel_rfl) (by kernel_rfl) (by kernel_rfl) (by kernel_rfl) (by kernel_rfl) (by decide) (by decide) (by kernel_rfl) rfl (Parts.cons (c:=[.string a0]) (by kernel_rfl) rfl Parts.nil) rfl ?_
  intro b28 w29 hS30
  have hS31:=hS30.pick7
  obtain ⟨g32,hp33⟩:=ite_some hp26
  refine r_append (c:=p38_5) (i:=4) (d:=(some 26)) (ty:=36) (enc:=encS) (e:=9) (u:=9) (t:=36) (t2:=36) (sz:=1) (cp:=ca2v6v_0) (A:=Aa2v6v_0) (bytes:=16) (xs:=a2v6v_0) (ys:=([a0] : List ByteArray)) (s:=(.tmp 23)) (x:=(.tmp 25)) (xv:=.slice (some ⟨b28,0,none⟩) ([a0] : List ByteArray).length 1) (info:=infoOf Try.prog 9) (z:=zeroOf Try.prog 9) (ycs:=([a0] : List ByteArray).flatMap encS) hS31 (by kernel_rfl) (by kernel_rfl) (by kernel_rfl) (by kernel_rfl) (by kernel_rfl) (.inl (by kernel_rfl)) (by kernel_rfl) (by kernel_rfl) (by kernel_rfl) (by kernel_rfl) (by kernel_rfl) (by omega) len_encS one_encS (src_row (hS31.row 1 rfl) (by omega) len_encS) rfl g32 (by omega) ?_
  intro A34 c35 w36 hS37
  refine sR 2 (.inRegion (opsOf p38_5) [7,8,9]::td30) ?_
  have hS39:=hS37.pick7
  refine rS 36 (.tmp 28) (.tmp 26) 0 (.slice A34 (a2v6v_0 ++ ([a0] : List ByteArray)).length c35) [.slice A34 (a2v6v_0 ++ ([a0] : List ByteArray)).length c35] [.slice A34 (a2v6v_0 ++ ([a0] : List ByteArray)).length c35,.map (some ba2v6v_1),.map wa2v6v_2] hS39 ?_
  intro w40 hS41
  refine sR 1 (.inRegion (opsOf p38_5) [9]::td30) ?_
  refine rS 100 (.tmp 29) (.tmp 27) 2 (.map (some ba1)) [.map (some ba1)] [.slice A34 (a2v6v_0 ++ ([a0] : List ByteArray)).length c35,.map (some ba2v6v_1),.map (some ba1)] hS41 ?_
  intro w42 hS43
  refine sR 2 [] ?_
  have hS44:=hS43.pick3
  refine r_rend hS44 [p38_2] ?_
  intro w45 hS46
  have hS47 : St w0 Z (xlp La2 38 (fill (mk 31 [(3,.pointer (some ⟨ba2v3,0,none⟩)),(4,.pointer (some ⟨ba2v4,0,none⟩)),(5,.pointer (some ⟨ba2v5,0,none⟩)),(6,.pointer (some ⟨ba2v6,0,none⟩))]) la2) #[14,15] p38_0 p38_1 Da2 [p38_2] 0::xblk ba2v6 109 ([.slice A34 (a2v6v_0 ++ ([a0] : List ByteArray)).length c35,.map (some ba2v6v_1),.map (some ba1)])::xrow A34 c35 9 1 ((a2v6v_0 ++ ([a0] : List ByteArray)).flatMap encS)::xrow (some ⟨b28,0,none⟩) 1 9 1 (([a0] : List ByteArray).flatMap encS)::xmap ba1 (a1m.map (kv Value.string (fun v => Value.agg (enc_explore_visit v).toArray)))::xblk ba2v3 3 ([.int .i64 a2v3v])::xblk ba2v4 109 ([.slice none 0 0,.map none,.map none])::xblk ba2v5 4 ([.bool a2v5v])::xmap ba2v6v_1 (ma2v6v_1.map (kv Value.string eVH))::fs) w45:=hS46
  have hS48:=hS47.pick3
  have hS49:=hS48.drop
  have hS50:=hS49.pick7
  have hS51:=hS50.pick2
  have hS52:=hS51.pick7
  have hS53:=hS52.pick7
  have hS54:=hS53.pick7
  have hS55:=hS54.pick5
  have hS56:=hS55.pick7
  have hS57:=hS56.pick7
  cases Option.some.inj hp33
  exact hR _ _ ⟨A34,c35,(some ba1),rfl,hS57⟩

abbrev td33:List Item:=[.inBlock 1]
abbrev td34:List Item:=.code p38_5::td33
abbrev td35:List Item:=.code (cd38 [1,1,0,1,0,1,0,0,1])::td34
def explore_all_r_2.f (a0 : ByteArray) (a1m : List (ByteArray × explore_visit)) (a2v3v : Int) (a2v5v : Bool) (a2v6v_0 : List ByteArray) (a2v6v_1m : List (ByteArray × (List explore_edge))) : Option (Int × Bool × (List ByteArray)) :=
  (if (decide ((a2v6v_0.length : Int) ≥ a2v3v)) = true then some ((1,false,a2v6v_0)) else (if (a2v6v_0.length + ([a0] : List ByteArray).length) * 16 ≤ 140737488355328 then some ((0,a2v5v,(a2v6v_0 ++ ([a0] : List ByteArray)))) else none))
theorem explore_all_r_2.ok (a0 : ByteArray) (a1m : List (ByteArray × explore_visit)) (a2v3v : Int) (a2v5v : Bool) (a2v6v_0 : List ByteArray) (a2v6v_1m : List (ByteArray × (List explore_edge))) (ba1 La2 Da2 : Nat) (la2 : List Value) (ba2v3 ba2v4 : Nat) (ba2v5 ba2v6 : Nat) (Aa2v6v_0 : Option Addr) (ca2v6v_0 ba2v6v_1 : Nat) (ma2v6v_1 : List (ByteArray × Hh × List explore_edge)) (hS0 : St w0 Z (xmap ba1 (a1m.map (kv Value.string (fun v => Value.agg (enc_explore_visit v).toArray)))::xlp La2 38 (fill (mk 31 [(3,.pointer (some ⟨ba2v3,0,none⟩)),(4,.pointer (some ⟨ba2v4,0,none⟩)),(5,.pointer (some ⟨ba2v5,0,none⟩)),(6,.pointer (some ⟨ba2v6,0,none⟩))]) la2) #[14,15] p38_0 p38_1 Da2 [p38_2] 0::xblk ba2v3 3 ([.int .i64 a2v3v])::xblk ba2v4 109 ([.slice none 0 0,.map none,.map none])::xblk ba2v5 4 ([.bool a2v5v])::xblk ba2v6 109 ([.slice Aa2v6v_0 a2v6v_0.length ca2v6v_0,.map (some ba2v6v_1),.map none])::xrow Aa2v6v_0 ca2v6v_0 9 1 (a2v6v_0.flatMap encS)::xmap ba2v6v_1 (ma2v6v_1.map (kv Value.string eVH))::fs) w) (hma2v6v_1 : MZ enc_explore_edge 4 Z ma2v6v_1 a2v6v_1m) {q0 : Int} {q1 : Bool} {q2 : List ByteArray} (hp0 : explore_all_r_2.f a0 a1m a2v3v a2v5v a2v6v_0 a2v6v_1m = some (q0,q1,q2)) :
    Rounds Try.prog La2 38 (fill (mk 31 [(3,.pointer (some ⟨ba2v3,0,none⟩)),(4,.pointer (some ⟨ba2v4,0,none⟩)),(5,.pointer (some ⟨ba2v5,0,none⟩)),(6,.pointer (some ⟨ba2v6,0,none⟩)),(14,.string a0),(15,.map (some ba1))]) la2).toArray p38_0 p38_1 w (fun e w' => ∃ (QA0 : Option Addr) (Qc0 : Nat) (Qv2 : Option Nat),e = .returned (.bool (decide (q0 = 0))) ∧ St w0 Z (xrow QA0 Qc0 9 1 (q2.flatMap encS)::xmap ba1 (a1m.map (kv Value.string (fun v => Value.agg (enc_explore_visit v).toArray)))::xlp La2 38 (fill (mk 31 [(3,.pointer (some ⟨ba2v3,0,none⟩)),(4,.pointer (some ⟨ba2v4,0,none⟩)),(5,.pointer (some ⟨ba2v5,0,none⟩)),(6,.pointer (some ⟨ba2v6,0,none⟩))]) la2) #[14,15] p38_0 p38_1 Da2 [p38_2] q0::xblk ba2v3 3 ([.int .i64 a2v3v])::xblk ba2v4 109 ([.slice none 0 0,.map none,.map none])::xblk ba2v5 4 ([.bool q1])::xblk ba2v6 109 ([.slice QA0 q2.length Qc0,.map (some ba2v6v_1),.map Qv2])::xmap ba2v6v_1 (ma2v6v_1.map (kv Value.string eVH))::fs) w'):=by
  refine rounds_abs ?_; intro R hR
  unfold explore_all_r_2.f at hp0
  refine rounds_of_runs ?_
  refine sR 7 [.beginRound,.code p38_1] ?_
  have hS1:=hS0.pick1
  refine r_begin hS1 ?_
  intro w2 hS3
  refine sR 5 (iR p38_3 1 4::td35) ?_
  refine rL1 36 (.tmp 16) 0 (hS3.blk 5 rfl) ?_
  refine sR 1 (.inRegion (opsOf p38_3) [3,4]::td35) ?_
  refine rL1 3 (.tmp 3) 0 (hS3.blk 2 rfl) ?_
  refine sI 1 (.inRegion (opsOf p38_3) []::td35) 20 hp0 (fun hp6 => ?_) fun hp26 => ?_
  ·refine sR 5 (.inRegion (opsOf (cd38 [1,1,0,1,0,1,0,0,1,0,0])) [1,2]::.code p38_2::td34) ?_
   have hS7:=hS3.pick3
   refine rS 109 (.tmp 4) (.tmp 21) 0 (.agg #[.slice none 0 0,.map none,.map none]) [.slice none 0 0,.map none,.map none] [.slice none 0 0,.map none,.map none] hS7 ?_
   intro w8 hS9
   have hS10:=hS9.pick4
   refine rS 4 (.tmp 5) (.const (.bool false)) 0 (.bool false) [.bool false] [.bool false] hS10 ?_
   intro w11 hS12
   refine sR 1 (.code p38_2::td34) ?_
   have hS13:=hS12.pick2
   refine r_rret hS13 [p38_2] 0 (by kernel_rfl) ?_
   intro w14 hS15
   have hS16 : St w0 Z (xlp La2 38 (fill (mk 31 [(3,.pointer (some ⟨ba2v3,0,none⟩)),(4,.pointer (some ⟨ba2v4,0,none⟩)),(5,.pointer (some ⟨ba2v5,0,none⟩)),(6,.pointer (some ⟨ba2v6,0,none⟩))]) la2) #[14,15] p38_0 p38_1 Da2 [p38_2] 1::xblk ba2v5 4 ([.bool false])::xblk ba2v4 109 ([.slice none 0 0,.map none,.map none])::xmap ba1 (a1m.map (kv Value.string (fun v => Value.agg (enc_explore_visit v).toArray)))::xblk ba2v3 3 ([.int .i64 a2v3v])::xblk ba2v6 109 ([.slice Aa2v6v_0 a2v6v_0.length ca2v6v_0,.map (some ba2v6v_1),.map none])::xrow Aa2v6v_0 ca2v6v_0 9 1 (a2v6v_0.flatMap encS)::xmap ba2v6v_1 (ma2v6v_1.map (kv Value.string eVH))::fs) w14:=hS15
   have hS17:=hS16.pick7
   have hS18:=hS17.pick6
   have hS19:=hS18.pick3
   have hS20:=hS19.pick4
   have hS21:=hS20.pick6
   have hS22:=hS21.pick5
   have hS23:=hS22.pick6
   have hS24:=hS23.pick7
   cases Option.some.inj hp6
   exact hR _ _ ⟨Aa2v6v_0,ca2v6v_0,none,rfl,hS24⟩
  refine sR 5 (iR p38_5 1 9::td33) ?_
  refine rL1 36 (.tmp 22) 0 (hS3.blk 5 rfl) ?_
  refine sR 1 (iR p38_5 3 7::td33) ?_
  refine r_lit (c:=p38_5) (i:=3) (d:=(some 25)) (ty:=36) (t:=36) (e:=9) (sz:=1) (n:=1) (parts:=#[(0,(.tmp 24))]) (vs:=[(0,.string a0)]) (z:=zeroOf Try.prog 9) (cs':=([a0] : List ByteArray).flatMap encS) hS3 (by kernel_rfl) (by kernel_rfl) (by kernel_rfl) (by kernel_rfl) (by kernel_rfl) (by decide) (by decide) (by kernel_rfl) rfl (Parts.cons (c:=[.string a0]) (by kernel_rfl) rfl Parts.nil) rfl ?_
  intro b28 w29 hS30
  have hS31:=hS30.pick7
  obtain ⟨g32,hp33⟩:=ite_some hp26
  refine r_append (c:=p38_5) (i:=4) (d:=(some 26)) (ty:=36) (enc:=encS) (e:=9) (u:=9) (t:=36) (t2:=36) (sz:=1) (cp:=ca2v6v_0) (A:=Aa2v6v_0) (bytes:=16) (xs:=a2v6v_0) (ys:=([a0] : List ByteArray)) (s:=(.tmp 23)) (x:=(.tmp 25)) (xv:=.slice (some ⟨b28,0,none⟩) ([a0] : List ByteArray).length 1) (info:=infoOf Try.prog 9) (z:=zeroOf Try.prog 9) (ycs:=([a0] : List ByteArray).flatMap encS) hS31 (by kernel_rfl) (by kernel_rfl) (by kernel_rfl) (by kernel_rfl) (by kernel_rfl) (.inl (by kernel_rfl)) (by kernel_rfl) (by kernel_rfl) (by kernel_rfl) (by kernel_rfl) (by kernel_rfl) (by omega) len_encS one_encS (src_row (hS31.row 1 rfl) (by omega) len_encS) rfl g32 (by omega) ?_
  intro A34 c35 w36 hS37
  refine sR 2 (.inRegion (opsOf p38_5) [7,8,9]::td33) ?_
  have hS39:=hS37.pick7
  refine rS 36 (.tmp 28) (.tmp 26) 0 (.slice A34 (a2v6v_0 ++ ([a0] : List ByteArray)).length c35) [.slice A34 (a2v6v_0 ++ ([a0] : List ByteArray)).length c35] [.slice A34 (a2v6v_0 ++ ([a0] : List ByteArray)).length c35,.map (some ba2v6v_1),.map none] hS39 ?_
  intro w40 hS41
  refine sR 1 (.inRegion (opsOf p38_5) [9]::td33) ?_
  refine rS 100 (.tmp 29) (.tmp 27) 2 (.map (some ba1)) [.map (some ba1)] [.slice A34 (a2v6v_0 ++ ([a0] : List ByteArray)).length c35,.map (some ba2v6v_1),.map (some ba1)] hS41 ?_
  intro w42 hS43
  refine sR 2 [] ?_
  have hS44:=hS43.pick3
  refine r_rend hS44 [p38_2] ?_
  intro w45 hS46
  have hS47 : St w0 Z (xlp La2 38 (fill (mk 31 [(3,.pointer (some ⟨ba2v3,0,none⟩)),(4,.pointer (some ⟨ba2v4,0,none⟩)),(5,.pointer (some ⟨ba2v5,0,none⟩)),(6,.pointer (some ⟨ba2v6,0,none⟩))]) la2) #[14,15] p38_0 p38_1 Da2 [p38_2] 0::xblk ba2v6 109 ([.slice A34 (a2v6v_0 ++ ([a0] : List ByteArray)).length c35,.map (some ba2v6v_1),.map (some ba1)])::xrow A34 c35 9 1 ((a2v6v_0 ++ ([a0] : List ByteArray)).flatMap encS)::xrow (some ⟨b28,0,none⟩) 1 9 1 (([a0] : List ByteArray).flatMap encS)::xmap ba1 (a1m.map (kv Value.string (fun v => Value.agg (enc_explore_visit v).toArray)))::xblk ba2v3 3 ([.int .i64 a2v3v])::xblk ba2v4 109 ([.slice none 0 0,.map none,.map none])::xblk ba2v5 4 ([.bool a2v5v])::xmap ba2v6v_1 (ma2v6v_1.map (kv Value.string eVH))::fs) w45:=hS46
  have hS48:=hS47.pick3
  have hS49:=hS48.drop
  have hS50:=hS49.pick7
  have hS51:=hS50.pick2
  have hS52:=hS51.pick7
  have hS53:=hS52.pick7
  have hS54:=hS53.pick7
  have hS55:=hS54.pick5
  have hS56:=hS55.pick7
  have hS57:=hS56.pick7
  cases Option.some.inj hp33
  exact hR _ _ ⟨A34,c35,(some ba1),rfl,hS57⟩

noncomputable def cd44 (p : List Nat) : Code := sub (bodyOf Try.f44) p
abbrev p44_0:=cd44 [0]
abbrev p44_12:=cd44 [1,1,0,0,1,0,1,1,0,0]
abbrev p44_14:=cd44 [1,1,0,0,1,0,1,1,1]
abbrev p44_15:=cd44 [1,1,0,0,1,0,1,1,1,0]
abbrev p44_16:=cd44 [1,1,0,0,1,0,1,1,1,1]
abbrev p44_20:=cd44 [1,1,0,0,1,0,1,1,1,1,0,1,0]
abbrev p44_21:=cd44 [1,1,0,0,1,0,1,1,1,1,1,1,0,0]
abbrev p44_24:=cd44 [1,1,0,0,1,0,1,1,1,1,1,1,0,0,1,1,0,0,0]
abbrev p44_27:=cd44 [1,1,0,0,1,0,1,1,1,1,1,1,0,0,1,1,0,0,1,0]
abbrev p44_28:=cd44 [1,1,0,0,1,0,1,1,1,1,1,1,0,0,1,1,0,0,1,1]
abbrev p44_29:=cd44 [1,1,0,0,1,0,1,1,1,1,1,1,0,0,1,1,0,0,1,1,0]
abbrev p44_31:=cd44 [1,1,0,0,1,0,1,1,1,1,1,1,0,0,1,1,0,0,1,1,1,0,0]
abbrev p44_32:=cd44 [1,1,0,0,1,0,1,1,1,1,1,1,0,0,1,1,0,0,1,1,1,0,1]
abbrev td36:List Item:=[.inBlock 0]
abbrev td37:List Item:=.inLoop (cd44 [1,1,0,0])::td36
abbrev td38:List Item:=.code (cd44 [1,1,0,0])::td37
abbrev td39:List Item:=.inBlock 1::td37
abbrev td40:List Item:=.code (cd44 [1,1,0,0,1,0,1,1,1,1,1])::td39
abbrev td41:List Item:=.inBlock 2::td39
abbrev td42:List Item:=.inLoop p44_21::td41
abbrev td43:List Item:=.code p44_21::td42
abbrev td44:List Item:=.code (cd44 [1,1,0,0,1,0,1,1,1,1,1,1,0,0,1,1,1])::td42
abbrev td45:List Item:=.inBlock 3::td44
abbrev td46:List Item:=.code (cd44 [1,1,0,0,1,0,1,1,1,1,1,1,0,0,1,1,0,0,1,1,1])::td45
abbrev td47:List Item:=.code p44_29::td46
abbrev td48:List Item:=.code p44_32::td45
def explore_walk_1.l1 (t53 : List ByteArray) (t120 : List explore_edge) (t167 : List ByteArray) (t171 : Int) (t172 : List (ByteArray × explore_visit)) : Option ((List ByteArray) × (List (ByteArray × explore_visit))) :=
  (if (decide (t171 < (t120.length : Int))) = true then (if 0 ≤ t171 ∧ t171 < (t120.length : Int) then (((if (mget t172 ((gt t120 t171).to)).isSome = true then some (true) else some (false)) : Option Bool) >>= (fun t200 => (if (!t200) = true then (if (t167.length + ([(gt t120 t171).to] : List ByteArray).length) * 16 ≤ 140737488355328 then (explore_walk_1.l1 t53 t120 (t167 ++ ([(gt t120 t171).to] : List ByteArray)) (IntKind.i64.wrap (t171 + 1)) (mput t172 ((gt t120 t171).to) (⟨(IntKind.i64.wrap ((((mget t172 (gt t53 (0 : Int))).getD (⟨0,(⟨#[]⟩ : ByteArray),⟨0,0,0⟩⟩ : explore_visit)).depth) + 1)),(gt t53 (0 : Int)),(gt t120 t171).by_⟩ : explore_visit))) else none) else (explore_walk_1.l1 t53 t120 (id t167) (IntKind.i64.wrap (t171 + 1)) (id t172))))) else none) else some ((t167,t172)))
 partial_fixpoint
def explore_walk_1.l0 (a0c0v3v : Int) (y24 : ByteArray) (a1v_1c0vv_1m : List (ByteArray × Int)) (a1v_1c1v : weirlaw14_Net) (t53 : List ByteArray) (t57 : Bool) (t58 : List ByteArray) (t63 : List (ByteArray × (List explore_edge))) (t66 : Bool) (t67 t68 : List (ByteArray × Int)) (t69 : List (ByteArray × explore_visit)) : Option (Sum (Bool × (List ByteArray) × (List (ByteArray × (List explore_edge))) × Bool × (List (ByteArray × Int)) × (List (ByteArray × Int))) (Int × Bool × (List ByteArray) × (List (ByteArray × (List explore_edge))) × Bool × (List (ByteArray × Int)) × (List (ByteArray × Int)))) :=
  (if (decide ((t53.length : Int) > 0)) = true then (if 0 ≤ (0 : Int) ∧ (0 : Int) < (t53.length : Int) then (if 0 ≤ (1 : Int) ∧ (1 : Int) ≤ (t53.length : Int) then (explore_all_r_1.f (gt t53 (0 : Int)) t69 a0c0v3v t57 t58 t63 >>= (fun (t98,t99,t100) => (if decide (t98 = 0) = true then (explore_moves.f y24 t67 a1v_1c0vv_1m t68 t66 a1v_1c1v (gt t53 (0 : Int)) >>= (fun (t120,t121,t122,t123) => (explore_all_1_1.f (gt t53 (0 : Int)) t120 t100 t63 >>= (fun t140 => (explore_walk_1.l1 t53 t120 ((t53.take t53.length).drop ((1 : Int).toNat)) 0 t69 >>= (fun (t157,t161) => (explore_walk_1.l0 a0c0v3v y24 a1v_1c0vv_1m a1v_1c1v t157 t99 t100 t140 t121 t122 t123 t161))))))) else some (.inr ((t98,t99,t100,t63,t66,t67,t68)))))) else none) else none) else some (.inl (t57,t58,t63,t66,t67,t68)))
 partial_fixpoint
def explore_walk_1.f (a0c0v3v : Int) (a0c0v5v : Bool) (a0c0v6v_1m : List (ByteArray × (List explore_edge))) (y24 : ByteArray) (a1v_1c0vv_0m a1v_1c0vv_1m a1v_1c0vv_2m : List (ByteArray × Int)) (a1v_1c0vv_3 : Bool) (a1v_1c1v : weirlaw14_Net) : Option (Int × Bool × (List ByteArray) × (List (ByteArray × (List explore_edge))) × Bool × (List (ByteArray × Int)) × (List (ByteArray × Int))) :=
  (explore_walk_1.l0 a0c0v3v y24 a1v_1c0vv_1m a1v_1c1v ([y24] : List ByteArray) a0c0v5v [] a0c0v6v_1m a1v_1c0vv_3 a1v_1c0vv_0m a1v_1c0vv_2m (mput ([] : List (ByteArray × explore_visit)) y24 (⟨0,(⟨#[]⟩ : ByteArray),(⟨0,0,0⟩ : api_Pick)⟩ : explore_visit)) >>= (fun | .inl (t17,t18,t23,t26,t27,t28) => some ((0,t17,t18,t23,t26,t27,t28)) | .inr e => some e))
theorem explore_walk_1.ok {a0c0v3v : Int} {a0c0v5v : Bool} {a0c0v6v_1m : List (ByteArray × (List explore_edge))} {y24 : ByteArray} {a1v_1c0vv_0m a1v_1c0vv_1m a1v_1c0vv_2m : List (ByteArray × Int)} {a1v_1c0vv_3 : Bool} {a1v_1c1v : weirlaw14_Net} {La0c0 Da0c0 : Nat} {la0c0 : List Value} {ba0c0v3 ba0c0v4 : Nat} {ba0c0v5 ba0c0v6 ba0c0v6v_1 : Nat} {ma0c0v6v_1 : List (ByteArray × Hh × List explore_edge)} {ba1 ba1v_1c0 : Nat} {ba1v_1c0v ba1v_1c0vv_0 : Nat} {ba1v_1c0vv_1 ba1v_1c0vv_2 ba1v_1c1 : Nat} {Aa1v_1c1v_0 : Option Addr} {ca1v_1c1v_0 : Nat} {Aa1v_1c1v_1 : Option Addr} {ca1v_1c1v_1 : Nat} {Aa1v_1c1v_2 : Option Addr} {ca1v_1c1v_2 ba2 : Nat} {q0 : Int} {q1 : Bool} {q2 : List ByteArray} {q3 : List (ByteArray × (List explore_edge))} {q4 : Bool} {q5 q6 : List (ByteArray × Int)} (hp0 : explore_walk_1.f a0c0v3v a0c0v5v a0c0v6v_1m y24 a1v_1c0vv_0m a1v_1c0vv_1m a1v_1c0vv_2m a1v_1c0vv_3 a1v_1c1v = some (q0,q1,q2,q3,q4,q5,q6)) (hS0 : St w0 Z (xlp La0c0 38 (fill (mk 31 [(3,.pointer (some ⟨ba0c0v3,0,none⟩)),(4,.pointer (some ⟨ba0c0v4,0,none⟩)),(5,.pointer (some ⟨ba0c0v5,0,none⟩)),(6,.pointer (some ⟨ba0c0v6,0,none⟩))]) la0c0) #[14,15] p38_0 p38_1 Da0c0 [p38_2] 0::xblk ba0c0v3 3 ([.int .i64 a0c0v3v])::xblk ba0c0v4 109 ([.slice none 0 0,.map none,.map none])::xblk ba0c0v5 4 ([.bool a0c0v5v])::xblk ba0c0v6 109 ([.slice none 0 0,.map (some ba0c0v6v_1),.map none])::xmap ba0c0v6v_1 (ma0c0v6v_1.map (kv Value.string eVH))::xblk ba1 32 ([.string y24,.func (.func 28) #[] #[.pointer (some ⟨ba1v_1c0,0,none⟩),.pointer (some ⟨ba1v_1c1,0,none⟩)],.func (.func 31) #[] #[.pointer (some ⟨ba1v_1c1,0,none⟩),.pointer (some ⟨ba1v_1c0,0,none⟩)],.func (.func 32) #[] #[.pointer (some ⟨ba1v_1c0,0,none⟩),.pointer (some ⟨ba1v_1c1,0,none⟩)]])::xblk ba1v_1c0 33 ([.pointer (some ⟨ba1v_1c0v,0,none⟩)])::xblk ba1v_1c0v 49 ([.map (some ba1v_1c0vv_0),.map (some ba1v_1c0vv_1),.map (some ba1v_1c0vv_2),.bool a1v_1c0vv_3])::xmap ba1v_1c0vv_0 (a1v_1c0vv_0m.map (kv Value.string (Value.int .i64)))::xmap ba1v_1c0vv_1 (a1v_1c0vv_1m.map (kv Value.string (Value.int .i64)))::xmap ba1v_1c0vv_2 (a1v_1c0vv_2m.map (kv Value.string (Value.int .i64)))::xblk ba1v_1c1 26 ([.slice Aa1v_1c1v_0 a1v_1c1v.Next.length ca1v_1c1v_0,.slice Aa1v_1c1v_1 a1v_1c1v.End.length ca1v_1c1v_1,.slice Aa1v_1c1v_2 a1v_1c1v.Value.length ca1v_1c1v_2,.int .i64 a1v_1c1v.Start])::xblk ba2 130 ([.func (.func 47) #[] #[.pointer (some ⟨ba0c0v6,0,none⟩)]])::fs) w) (hma0c0v6v_1 : MZ enc_explore_edge 4 Z ma0c0v6v_1 a0c0v6v_1m) (ha1v_1c1v_0 : SlZ (repL (flat (encI .i64)) 1) 1 Z Aa1v_1c1v_0 ca1v_1c1v_0 a1v_1c1v.Next) (ha1v_1c1v_1 : SlZ (flat encB) 1 Z Aa1v_1c1v_1 ca1v_1c1v_1 a1v_1c1v.End) (ha1v_1c1v_2 : SlZ (flat (encI .i64)) 1 Z Aa1v_1c1v_2 ca1v_1c1v_2 a1v_1c1v.Value) :
    Calls Try.prog 44 #[.func (.yield La0c0) #[] #[],.pointer (some ⟨ba1,0,none⟩),.pointer (some ⟨ba2,0,none⟩)] w (fun e w' => ∃ (QA0 : Option Addr) (Qc0 : Nat) (Qv2 : Option Nat) (Qm3 : List (ByteArray × Hh × List explore_edge)) (Z' : Zm),Zm.Le Z Z' ∧ e = .returned (.tuple #[]) ∧ St w0 Z' (xrow QA0 Qc0 9 1 (q2.flatMap encS)::xlp La0c0 38 (fill (mk 31 [(3,.pointer (some ⟨ba0c0v3,0,none⟩)),(4,.pointer (some ⟨ba0c0v4,0,none⟩)),(5,.pointer (some ⟨ba0c0v5,0,none⟩)),(6,.pointer (some ⟨ba0c0v6,0,none⟩))]) la0c0) #[14,15] p38_0 p38_1 Da0c0 [p38_2] q0::xblk ba0c0v3 3 ([.int .i64 a0c0v3v])::xblk ba0c0v4 109 ([.slice none 0 0,.map none,.map none])::xblk ba0c0v5 4 ([.bool q1])::xblk ba0c0v6 109 ([.slice QA0 q2.length Qc0,.map (some ba0c0v6v_1),.map Qv2])::xmap ba0c0v6v_1 (Qm3.map (kv Value.string eVH))::xblk ba1 32 ([.string y24,.func (.func 28) #[] #[.pointer (some ⟨ba1v_1c0,0,none⟩),.pointer (some ⟨ba1v_1c1,0,none⟩)],.func (.func 31) #[] #[.pointer (some ⟨ba1v_1c1,0,none⟩),.pointer (some ⟨ba1v_1c0,0,none⟩)],.func (.func 32) #[] #[.pointer (some ⟨ba1v_1c0,0,none⟩),.pointer (some ⟨ba1v_1c1,0,none⟩)]])::xblk ba1v_1c0 33 ([.pointer (some ⟨ba1v_1c0v,0,none⟩)])::xblk ba1v_1c0v 49 ([.map (some ba1v_1c0vv_0),.map (some ba1v_1c0vv_1),.map (some ba1v_1c0vv_2),.bool q4])::xmap ba1v_1c0vv_0 (q5.map (kv Value.string (Value.int .i64)))::xmap ba1v_1c0vv_1 (a1v_1c0vv_1m.map (kv Value.string (Value.int .i64)))::xmap ba1v_1c0vv_2 (q6.map (kv Value.string (Value.int .i64)))::xblk ba1v_1c1 26 ([.slice Aa1v_1c1v_0 a1v_1c1v.Next.length ca1v_1c1v_0,.slice Aa1v_1c1v_1 a1v_1c1v.End.length ca1v_1c1v_1,.slice Aa1v_1c1v_2 a1v_1c1v.Value.length ca1v_1c1v_2,.int .i64 a1v_1c1v.Start])::xblk ba2 130 ([.func (.func 47) #[] #[.pointer (some ⟨ba0c0v6,0,none⟩)]])::fs) w' ∧ MZ enc_explore_edge 4 Z' Qm3 q3):=by
  refine calls_abs ?_; intro R hR
  unfold explore_walk_1.f at hp0
  refine calls_of_runs (fn:=Try.f44) (c:=cd44 []) Try.func44 (by kernel_rfl) (al:=[.func (.yield La0c0) #[] #[],.pointer (some ⟨ba1,0,none⟩),.pointer (some ⟨ba2,0,none⟩)]) rfl (n:=72) rfl ?_
  refine sR 2 [iR p44_0 0 7,.code (cd44 [1])] ?_
  refine r_makeMap (c:=p44_0) (i:=0) (d:=(some 12)) (ty:=100) (t:=100) hS0 (by kernel_rfl) (by kernel_rfl) ?_
  intro b1 w2 hS3
  have hS5 : St w0 Z (xmap b1 (([] : List (ByteArray × explore_visit)).map (kv Value.string (fun v => Value.agg (enc_explore_visit v).toArray)))::xlp La0c0 38 (fill (mk 31 [(3,.pointer (some ⟨ba0c0v3,0,none⟩)),(4,.pointer (some ⟨ba0c0v4,0,none⟩)),(5,.pointer (some ⟨ba0c0v5,0,none⟩)),(6,.pointer (some ⟨ba0c0v6,0,none⟩))]) la0c0) #[14,15] p38_0 p38_1 Da0c0 [p38_2] 0::xblk ba0c0v3 3 ([.int .i64 a0c0v3v])::xblk ba0c0v4 109 ([.slice none 0 0,.map none,.map none])::xblk ba0c0v5 4 ([.bool a0c0v5v])::xblk ba0c0v6 109 ([.slice none 0 0,.map (some ba0c0v6v_1),.map none])::xmap ba0c0v6v_1 (ma0c0v6v_1.map (kv Value.string eVH))::xblk ba1 32 ([.string y24,.func (.func 28) #[] #[.pointer (some ⟨ba1v_1c0,0,none⟩),.pointer (some ⟨ba1v_1c1,0,none⟩)],.func (.func 31) #[] #[.pointer (some ⟨ba1v_1c1,0,none⟩),.pointer (some ⟨ba1v_1c0,0,none⟩)],.func (.func 32) #[] #[.pointer (some ⟨ba1v_1c0,0,none⟩),.pointer (some ⟨ba1v_1c1,0,none⟩)]])::xblk ba1v_1c0 33 ([.pointer (some ⟨ba1v_1c0v,0,none⟩)])::xblk ba1v_1c0v 49 ([.map (some ba1v_1c0vv_0),.map (some ba1v_1c0vv_1),.map (some ba1v_1c0vv_2),.bool a1v_1c0vv_3])::xmap ba1v_1c0vv_0 (a1v_1c0vv_0m.map (kv Value.string (Value.int .i64)))::xmap ba1v_1c0vv_1 (a1v_1c0vv_1m.map (kv Value.string (Value.int .i64)))::xmap ba1v_1c0vv_2 (a1v_1c0vv_2m.map (kv Value.string (Value.int .i64)))::xblk ba1v_1c1 26 ([.slice Aa1v_1c1v_0 a1v_1c1v.Next.length ca1v_1c1v_0,.slice Aa1v_1c1v_1 a1v_1c1v.End.length ca1v_1c1v_1,.slice Aa1v_1c1v_2 a1v_1c1v.Value.length ca1v_1c1v_2,.int .i64 a1v_1c1v.Start])::xblk ba2 130 ([.func (.func 47) #[] #[.pointer (some ⟨ba0c0v6,0,none⟩)]])::fs) w2:=hS3
  refine sR 1 [iR p44_0 2 5,.code (cd44 [1])] ?_
  refine rL1 9 (.tmp 13) 0 (hS5.blk 7 rfl) ?_
  refine sR 1 [.inRegion (opsOf p44_0) [4,5,6],.code (cd44 [1])] ?_
  refine r_insert (c:=p44_0) (i:=4) (d:=none) (ty:=0) (eK:=Value.string) (eV:=(fun v => Value.agg (enc_explore_visit v).toArray)) (dk:=.string) (b:=b1) (t:=100) (kt:=9) (et:=102) (x:=(.tmp 12)) (y:=(.tmp 14)) (z:=(.tmp 15)) (m:=([] : List (ByteArray × explore_visit))) (kk:=y24) (v:=(⟨0,(⟨#[]⟩ : ByteArray),(⟨0,0,0⟩ : api_Pick)⟩ : explore_visit)) hS5 (by kernel_rfl) (by kernel_rfl) key_str (by kernel_rfl) (by kernel_rfl) (by kernel_rfl) (by kernel_rfl) (by kernel_rfl) ?_
  intro w6 hS7
  refine sR 6 [.inRegion (opsOf (cd44 [1,0])) [1,2,3],.code (cd44 [1,1])] ?_
  refine rL1 9 (.tmp 17) 0 (hS7.blk 7 rfl) ?_
  refine r_lit (c:=(cd44 [1,0])) (i:=2) (d:=(some 19)) (ty:=36) (t:=36) (e:=9) (sz:=1) (n:=1) (parts:=#[(0,(.tmp 18))]) (vs:=[(0,.string y24)]) (z:=zeroOf Try.prog 9) (cs':=([y24] : List ByteArray).flatMap encS) hS7 (by kernel_rfl) (by kernel_rfl) (by kernel_rfl) (by kernel_rfl) (by kernel_rfl) (by decide) (by decide) (by kernel_rfl) rfl (Parts.cons (c:=[.string y24]) (by kernel_rfl) rfl Parts.nil) rfl ?_
  intro b9 w10 hS11
  refine sR 4 td38 ?_
  obtain ⟨v12,hv13,hp14⟩:=bind_some' hp0
  have hq31 : ∀ x,Sum.inr x = v12 → x = (q0,q1,q2,q3,q4,q5,q6):=by intro x hx; subst hx; simpa using hp14
  have J32 : ∀ (t17 : Bool) (t18 : List ByteArray) (t23 : List (ByteArray × (List explore_edge))) (t26 : Bool) (t27 t28 : List (ByteArray × Int)) (he34 : Sum.inl (t17,t18,t23,t26,t27,t28) = v12) (l33 : List Value) (Z15 : Zm) (A19 : Option Addr) (c20 : Nat) (v22 : Option Nat) (mh24 : List (ByteArray × Hh × List explore_edge)) (w29 : World) (hz16 : Zm.Le Z Z15) (hS30 : St w0 Z15 (xlp La0c0 38 (fill (mk 31 [(3,.pointer (some ⟨ba0c0v3,0,none⟩)),(4,.pointer (some ⟨ba0c0v4,0,none⟩)),(5,.pointer (some ⟨ba0c0v5,0,none⟩)),(6,.pointer (some ⟨ba0c0v6,0,none⟩))]) la0c0) #[14,15] p38_0 p38_1 Da0c0 [p38_2] 0::xblk ba0c0v3 3 ([.int .i64 a0c0v3v])::xblk ba0c0v4 109 ([.slice none 0 0,.map none,.map none])::xblk ba0c0v5 4 ([.bool t17])::xblk ba0c0v6 109 ([.slice A19 t18.length c20,.map (some ba0c0v6v_1),.map v22])::xrow A19 c20 9 1 (t18.flatMap encS)::xmap ba0c0v6v_1 (mh24.map (kv Value.string eVH))::xblk ba1 32 ([.string y24,.func (.func 28) #[] #[.pointer (some ⟨ba1v_1c0,0,none⟩),.pointer (some ⟨ba1v_1c1,0,none⟩)],.func (.func 31) #[] #[.pointer (some ⟨ba1v_1c1,0,none⟩),.pointer (some ⟨ba1v_1c0,0,none⟩)],.func (.func 32) #[] #[.pointer (some ⟨ba1v_1c0,0,none⟩),.pointer (some ⟨ba1v_1c1,0,none⟩)]])::xblk ba1v_1c0 33 ([.pointer (some ⟨ba1v_1c0v,0,none⟩)])::xblk ba1v_1c0v 49 ([.map (some ba1v_1c0vv_0),.map (some ba1v_1c0vv_1),.map (some ba1v_1c0vv_2),.bool t26])::xmap ba1v_1c0vv_0 (t27.map (kv Value.string (Value.int .i64)))::xmap ba1v_1c0vv_1 (a1v_1c0vv_1m.map (kv Value.string (Value.int .i64)))::xmap ba1v_1c0vv_2 (t28.map (kv Value.string (Value.int .i64)))::xblk ba1v_1c1 26 ([.slice Aa1v_1c1v_0 a1v_1c1v.Next.length ca1v_1c1v_0,.slice Aa1v_1c1v_1 a1v_1c1v.End.length ca1v_1c1v_1,.slice Aa1v_1c1v_2 a1v_1c1v.Value.length ca1v_1c1v_2,.int .i64 a1v_1c1v.Start])::xblk ba2 130 ([.func (.func 47) #[] #[.pointer (some ⟨ba0c0v6,0,none⟩)]])::fs) w29) (hm25 : MZ enc_explore_edge 4 Z15 mh24 t23),Runs Try.prog (fx 44) [] (fill (mk 75 []) l33) w29 R:=by
   intro t17 t18 t23 t26 t27 t28 he34 l33 Z15 A19 c20 v22 mh24 w29 hz16 hS30 hm25
   subst he34
   try dsimp only at hp14
   have hS35:=hS30.pick14
   have hS36:=hS35.pick14
   have hS37:=hS36.pick14
   have hS38:=hS37.pick14
   have hS39:=hS38.pick14
   have hS40:=hS39.pick14
   have hS41:=hS40.pick14
   have hS42:=hS41.pick14
   have hS43:=hS42.pick14
   have hS44:=hS43.pick13
   have hS45:=hS44.pick13
   have hS46:=hS45.pick13
   have hS47:=hS46.pick13
   have hS48:=hS47.pick13
   have hS49:=hS48.pick14
   refine runs_end (fn:=Try.f44) (v:=.tuple #[]) Try.func44 (by kernel_rfl) ?_
   cases Option.some.inj hp14
   exact hR _ _ ⟨A19,c20,v22,mh24,Z15,hz16,rfl,hS49,hm25⟩
  have L78 : ∀ (t53 : List ByteArray) (t57 : Bool) (t58 : List ByteArray) (t63 : List (ByteArray × (List explore_edge))) (t66 : Bool) (t67 t68 : List (ByteArray × Int)) (t69 : List (ByteArray × explore_visit)) (e73 : Sum (Bool × (List ByteArray) × (List (ByteArray × (List explore_edge))) × Bool × (List (ByteArray × Int)) × (List (ByteArray × Int))) (Int × Bool × (List ByteArray) × (List (ByteArray × (List explore_edge))) × Bool × (List (ByteArray × Int)) × (List (ByteArray × Int)))),explore_walk_1.l0 a0c0v3v y24 a1v_1c0vv_1m a1v_1c1v t53 t57 t58 t63 t66 t67 t68 t69 = some e73 → e73 = v12 → ∀ (l72 : List Value) (Z51 : Zm) (A54 : Option Addr) (c55 : Nat) (A59 : Option Addr) (c60 : Nat) (v62 : Option Nat) (mh64 : List (ByteArray × Hh × List explore_edge)) (w70 : World) (hz52 : Zm.Le Z Z51) (hS71 : St w0 Z51 (xlp La0c0 38 (fill (mk 31 [(3,.pointer (some ⟨ba0c0v3,0,none⟩)),(4,.pointer (some ⟨ba0c0v4,0,none⟩)),(5,.pointer (some ⟨ba0c0v5,0,none⟩)),(6,.pointer (some ⟨ba0c0v6,0,none⟩))]) la0c0) #[14,15] p38_0 p38_1 Da0c0 [p38_2] 0::xblk ba0c0v3 3 ([.int .i64 a0c0v3v])::xblk ba0c0v4 109 ([.slice none 0 0,.map none,.map none])::xblk ba0c0v5 4 ([.bool t57])::xblk ba0c0v6 109 ([.slice A59 t58.length c60,.map (some ba0c0v6v_1),.map v62])::xrow A59 c60 9 1 (t58.flatMap encS)::xmap ba0c0v6v_1 (mh64.map (kv Value.string eVH))::xblk ba1 32 ([.string y24,.func (.func 28) #[] #[.pointer (some ⟨ba1v_1c0,0,none⟩),.pointer (some ⟨ba1v_1c1,0,none⟩)],.func (.func 31) #[] #[.pointer (some ⟨ba1v_1c1,0,none⟩),.pointer (some ⟨ba1v_1c0,0,none⟩)],.func (.func 32) #[] #[.pointer (some ⟨ba1v_1c0,0,none⟩),.pointer (some ⟨ba1v_1c1,0,none⟩)]])::xblk ba1v_1c0 33 ([.pointer (some ⟨ba1v_1c0v,0,none⟩)])::xblk ba1v_1c0v 49 ([.map (some ba1v_1c0vv_0),.map (some ba1v_1c0vv_1),.map (some ba1v_1c0vv_2),.bool t66])::xmap ba1v_1c0vv_0 (t67.map (kv Value.string (Value.int .i64)))::xmap ba1v_1c0vv_1 (a1v_1c0vv_1m.map (kv Value.string (Value.int .i64)))::xmap ba1v_1c0vv_2 (t68.map (kv Value.string (Value.int .i64)))::xblk ba1v_1c1 26 ([.slice Aa1v_1c1v_0 a1v_1c1v.Next.length ca1v_1c1v_0,.slice Aa1v_1c1v_1 a1v_1c1v.End.length ca1v_1c1v_1,.slice Aa1v_1c1v_2 a1v_1c1v.Value.length ca1v_1c1v_2,.int .i64 a1v_1c1v.Start])::xblk ba2 130 ([.func (.func 47) #[] #[.pointer (some ⟨ba0c0v6,0,none⟩)]])::xmap b1 (t69.map (kv Value.string (fun v => Value.agg (enc_explore_visit v).toArray)))::xrow A54 c55 9 1 (t53.flatMap encS)::fs) w70) (hm65 : MZ enc_explore_edge 4 Z51 mh64 t63),Runs Try.prog (fx 44) td38 (fill (mk 75 [(0,.func (.yield La0c0) #[] #[]),(1,.pointer (some ⟨ba1,0,none⟩)),(2,.pointer (some ⟨ba2,0,none⟩)),(4,.map (some b1)),(5,.slice A54 t53.length c55)]) l72) w70 R:=by
   refine explore_walk_1.l0.partial_correctness a0c0v3v y24 a1v_1c0vv_1m a1v_1c1v (fun t53 t57 t58 t63 t66 t67 t68 t69 e73 => e73 = v12 → ∀ (l72 : List Value) (Z51 : Zm) (A54 : Option Addr) (c55 : Nat) (A59 : Option Addr) (c60 : Nat) (v62 : Option Nat) (mh64 : List (ByteArray × Hh × List explore_edge)) (w70 : World) (hz52 : Zm.Le Z Z51) (hS71 : St w0 Z51 (xlp La0c0 38 (fill (mk 31 [(3,.pointer (some ⟨ba0c0v3,0,none⟩)),(4,.pointer (some ⟨ba0c0v4,0,none⟩)),(5,.pointer (some ⟨ba0c0v5,0,none⟩)),(6,.pointer (some ⟨ba0c0v6,0,none⟩))]) la0c0) #[14,15] p38_0 p38_1 Da0c0 [p38_2] 0::xblk ba0c0v3 3 ([.int .i64 a0c0v3v])::xblk ba0c0v4 109 ([.slice none 0 0,.map none,.map none])::xblk ba0c0v5 4 ([.bool t57])::xblk ba0c0v6 109 ([.slice A59 t58.length c60,.map (some ba0c0v6v_1),.map v62])::xrow A59 c60 9 1 (t58.flatMap encS)::xmap ba0c0v6v_1 (mh64.map (kv Value.string eVH))::xblk ba1 32 ([.string y24,.func (.func 28) #[] #[.pointer (some ⟨ba1v_1c0,0,none⟩),.pointer (some ⟨ba1v_1c1,0,none⟩)],.func (.func 31) #[] #[.pointer (some ⟨ba1v_1c1,0,none⟩),.pointer (some ⟨ba1v_1c0,0,none⟩)],.func (.func 32) #[] #[.pointer (some ⟨ba1v_1c0,0,none⟩),.pointer (some ⟨ba1v_1c1,0,none⟩)]])::xblk ba1v_1c0 33 ([.pointer (some ⟨ba1v_1c0v,0,none⟩)])::xblk ba1v_1c0v 49 ([.map (some ba1v_1c0vv_0),.map (some ba1v_1c0vv_1),.map (some ba1v_1c0vv_2),.bool t66])::xmap ba1v_1c0vv_0 (t67.map (kv Value.string (Value.int .i64)))::xmap ba1v_1c0vv_1 (a1v_1c0vv_1m.map (kv Value.string (Value.int .i64)))::xmap ba1v_1c0vv_2 (t68.map (kv Value.string (Value.int .i64)))::xblk ba1v_1c1 26 ([.slice Aa1v_1c1v_0 a1v_1c1v.Next.length ca1v_1c1v_0,.slice Aa1v_1c1v_1 a1v_1c1v.End.length ca1v_1c1v_1,.slice Aa1v_1c1v_2 a1v_1c1v.Value.length ca1v_1c1v_2,.int .i64 a1v_1c1v.Start])::xblk ba2 130 ([.func (.func 47) #[] #[.pointer (some ⟨ba0c0v6,0,none⟩)]])::xmap b1 (t69.map (kv Value.string (fun v => Value.agg (enc_explore_visit v).toArray)))::xrow A54 c55 9 1 (t53.flatMap encS)::fs) w70) (hm65 : MZ enc_explore_edge 4 Z51 mh64 t63),Runs Try.prog (fx 44) td38 (fill (mk 75 [(0,.func (.yield La0c0) #[] #[]),(1,.pointer (some ⟨ba1,0,none⟩)),(2,.pointer (some ⟨ba2,0,none⟩)),(4,.map (some b1)),(5,.slice A54 t53.length c55)]) l72) w70 R) ?_
   intro rec77 ih76 t53 t57 t58 t63 t66 t67 t68 t69 e73 hb75 he74 l72 Z51 A54 c55 A59 c60 v62 mh64 w70 hz52 hS71 hm65
   have hq79 : ∀ x,Sum.inr x = e73 → x = (q0,q1,q2,q3,q4,q5,q6):=fun x hx => hq31 x (hx.trans he74)
   refine sI 6 (.inRegion (opsOf (cd44 [1,1,0,0,0,0])) []::.code (cd44 [1,1,0,0,0,1])::.code (cd44 [1,1,0,0,1])::td37) 22 hb75 (fun hp82 => ?_) fun hp323 => ?_
   ·refine sR 7 (.inRegion (opsOf (cd44 [1,1,0,0,1,0,0])) [1,2,3]::.code (cd44 [1,1,0,0,1,0,1])::td39) ?_
    obtain ⟨g83,hp84⟩:=ite_some hp82
    obtain ⟨b85,p86,hA87,-⟩:=(hS71.row 16 rfl).at_ len_encS (by omega) g83.1 g83.2
    refine r_indexAddr (c:=(cd44 [1,1,0,0,1,0,0])) (i:=1) (d:=(some 24)) (ty:=0) (t:=36) (e:=9) (n:=t53.length) (cp:=c55) (sz:=1) (kk:=.i64) (x:=(.tmp 23)) (y:=(.const (.int .i64 0))) (b:=b85) (o':=p86) (j:=(0 : Int)) (by kernel_rfl) (by kernel_rfl) (slv (by kernel_rfl) hA87) (by kernel_rfl) (by kernel_rfl) (by kernel_rfl) g83.1 g83.2 ?_
    refine rL1 9 (.tmp 24) 0 ((hS71.row 16 rfl).at2 hA87 len_encS (by omega) g83.1 g83.2) ?_
    refine sR 5 (.inRegion (opsOf (cd44 [1,1,0,0,1,0,1,0])) [1,2]::.code (cd44 [1,1,0,0,1,0,1,1])::td39) ?_
    obtain ⟨g89,hp90⟩:=ite_some hp84
    have hS95:=hS71.pick16
    obtain ⟨A91,c92,hr93,hS96⟩:=hS95.cutrow len_encS (by omega) ((1 : Int).toNat) (t53.length) (by omega) (by omega)
    refine rV (.slice 36 (.tmp 26) (some (.const (.int .i64 1))) none none) (.slice A91 ((t53.take t53.length).drop ((1 : Int).toNat)).length c92) (fun o ho _ => x_cutSl_sn (e:=9) (sz:=1) (A:=A54) (n:=t53.length) (c:=c55) (k:=.i64) (by kernel_rfl) (by kernel_rfl) (by kernel_rfl) (by kernel_rfl) g89 hr93 ho) ?_
    refine sR 8 (.inRegion (opsOf p44_12) [3,4]::.code (cd44 [1,1,0,0,1,0,1,1,0,1])::.code p44_14::td39) ?_
    obtain ⟨⟨t98,t99,t100⟩,hr104,hp105⟩:=bind_some' hp90
    try dsimp only at hp105
    have hS107:=hS96.pick7
    have hS108:=hS107.pick7
    have hS109:=hS108.pick7
    have hS110:=hS109.pick7
    have hS111:=hS110.pick7
    have hS112:=hS111.pick7
    have hS113:=hS112.pick7
    have hS114:=hS113.pick16
    refine r_yield (c:=p44_12) (i:=3) (d:=(some 31)) (args:=#[.string (gt t53 (0 : Int)),.map (some b1)]) (hS114.lp 1 rfl) (by kernel_rfl) (by kernel_rfl) (by kernel_rfl) (by kernel_rfl) (explore_all_r_1.ok (gt t53 (0 : Int)) t69 a0c0v3v t57 t58 t63 b1 La0c0 Da0c0 la0c0 ba0c0v3 ba0c0v4 ba0c0v5 ba0c0v6 A59 c60 ba0c0v6v_1 mh64 v62 hS114 hm65 hr104) rfl (by kernel_rfl) ?_
    rintro _ w115 ⟨Q101,Q102,Q103,rfl,hS116⟩
    refine ⟨_,rfl,?_⟩
    refine r_split (decide (t98 = 0)) (fun h117 => ?_) (fun h118 => ?_)
    ·have hp119:=ite_t hp105 h117
     obtain rfl:=of_decide_eq_true h117
     refine sR 6 (iR p44_15 0 4::.code p44_16::td39) ?_
     refine rLa 32 (.tmp 1) (hS116.blk 9 rfl) ?_
     refine sR 1 (.inRegion (opsOf p44_15) [2,3]::.code p44_16::td39) ?_
     obtain ⟨⟨t120,t121,t122,t123⟩,hr126,hp127⟩:=bind_some' hp119
     try dsimp only at hp127
     have hS132:=hS116.pick15
     have hS133:=hS132.pick15
     have hS134:=hS133.pick15
     have hS135:=hS134.pick15
     have hS136:=hS135.pick15
     have hS137:=hS136.pick15
     refine rC (explore_moves.ok hr126 hS137 (SlZ.mono (mono_repL (mono_flat _)) ha1v_1c1v_0 hz52) (ha1v_1c1v_1.up hz52) (ha1v_1c1v_2.up hz52)) ?_
     rintro _ w138 ⟨Q124,Q125,rfl,hS139⟩
     refine ⟨_,rfl,?_⟩
     refine sR 5 (.inRegion (opsOf (cd44 [1,1,0,0,1,0,1,1,1,1,0,0])) [0,1]::.code (cd44 [1,1,0,0,1,0,1,1,1,1,0,1])::td40) ?_
     refine rL1 130 (.tmp 2) 0 (hS139.blk 17 rfl) ?_
     refine sR 4 (iR p44_20 0 4::td40) ?_
     refine rL1 130 (.tmp 2) 0 (hS139.blk 17 rfl) ?_
     refine sR 2 (.inRegion (opsOf p44_20) [3]::td40) ?_
     obtain ⟨t140,hr142,hp143⟩:=bind_some' hp127
     obtain ⟨Z144,hz145,hS146,hs147,-⟩:=hS139.lendrow len_explore_edge (by omega)
     have hS148:=hS146.pick13
     have hS149:=hS148.pick7
     have hS150:=hS149.pick13
     refine rC (explore_all_1_1.ok (gt t53 (0 : Int)) t120 t100 t63 Q124 Q125 ba0c0v6 Q101 Q102 ba0c0v6v_1 mh64 Q103 hS150 hs147 (MZ.up hm65 hz145) hr142) ?_
     rintro _ w151 ⟨Q141,rfl,hS152,hs153⟩
     refine ⟨_,rfl,?_⟩
     refine sR 9 td43 ?_
     obtain ⟨v154,hv155,hp156⟩:=bind_some' hp143
     have J164 : ∀ (t157 : List ByteArray) (t161 : List (ByteArray × explore_visit)) (he166 : (t157,t161) = v154) (l165 : List Value) (A158 : Option Addr) (c159 : Nat) (w162 : World) (hS163 : St w0 Z144 (xlp La0c0 38 (fill (mk 31 [(3,.pointer (some ⟨ba0c0v3,0,none⟩)),(4,.pointer (some ⟨ba0c0v4,0,none⟩)),(5,.pointer (some ⟨ba0c0v5,0,none⟩)),(6,.pointer (some ⟨ba0c0v6,0,none⟩))]) la0c0) #[14,15] p38_0 p38_1 Da0c0 [p38_2] 0::xblk ba0c0v3 3 ([.int .i64 a0c0v3v])::xblk ba0c0v4 109 ([.slice none 0 0,.map none,.map none])::xblk ba0c0v5 4 ([.bool t99])::xblk ba0c0v6 109 ([.slice Q101 t100.length Q102,.map (some ba0c0v6v_1),.map Q103])::xrow Q101 Q102 9 1 (t100.flatMap encS)::xmap ba0c0v6v_1 (Q141.map (kv Value.string eVH))::xblk ba1 32 ([.string y24,.func (.func 28) #[] #[.pointer (some ⟨ba1v_1c0,0,none⟩),.pointer (some ⟨ba1v_1c1,0,none⟩)],.func (.func 31) #[] #[.pointer (some ⟨ba1v_1c1,0,none⟩),.pointer (some ⟨ba1v_1c0,0,none⟩)],.func (.func 32) #[] #[.pointer (some ⟨ba1v_1c0,0,none⟩),.pointer (some ⟨ba1v_1c1,0,none⟩)]])::xblk ba1v_1c0 33 ([.pointer (some ⟨ba1v_1c0v,0,none⟩)])::xblk ba1v_1c0v 49 ([.map (some ba1v_1c0vv_0),.map (some ba1v_1c0vv_1),.map (some ba1v_1c0vv_2),.bool t121])::xmap ba1v_1c0vv_0 (t122.map (kv Value.string (Value.int .i64)))::xmap ba1v_1c0vv_1 (a1v_1c0vv_1m.map (kv Value.string (Value.int .i64)))::xmap ba1v_1c0vv_2 (t123.map (kv Value.string (Value.int .i64)))::xblk ba1v_1c1 26 ([.slice Aa1v_1c1v_0 a1v_1c1v.Next.length ca1v_1c1v_0,.slice Aa1v_1c1v_1 a1v_1c1v.End.length ca1v_1c1v_1,.slice Aa1v_1c1v_2 a1v_1c1v.Value.length ca1v_1c1v_2,.int .i64 a1v_1c1v.Start])::xblk ba2 130 ([.func (.func 47) #[] #[.pointer (some ⟨ba0c0v6,0,none⟩)]])::xmap b1 (t161.map (kv Value.string (fun v => Value.agg (enc_explore_visit v).toArray)))::xrow A158 c159 9 1 (t157.flatMap encS)::fs) w162),Runs Try.prog (fx 44) td39 (fill (mk 75 [(0,.func (.yield La0c0) #[] #[]),(1,.pointer (some ⟨ba1,0,none⟩)),(2,.pointer (some ⟨ba2,0,none⟩)),(4,.map (some b1)),(5,.slice A158 t157.length c159)]) l165) w162 R:=by
      intro t157 t161 he166 l165 A158 c159 w162 hS163
      subst he166
      try dsimp only at hp156
      refine sR 1 td37 ?_
      refine sR 1 td38 ?_
      exact rF _ (ih76 t157 t99 t100 t140 t121 t122 t123 t161 _ hp156 he74 _ Z144 A158 c159 Q101 Q102 Q103 Q141 _ (Zm.Le.trans hz52 hz145) hS163 hs153)
     have L181 : ∀ (t167 : List ByteArray) (t171 : Int) (t172 : List (ByteArray × explore_visit)) (e176 : ((List ByteArray) × (List (ByteArray × explore_visit)))),explore_walk_1.l1 t53 t120 t167 t171 t172 = some e176 → e176 = v154 → ∀ (l175 : List Value) (A168 : Option Addr) (c169 : Nat) (w173 : World) (hS174 : St w0 Z144 (xlp La0c0 38 (fill (mk 31 [(3,.pointer (some ⟨ba0c0v3,0,none⟩)),(4,.pointer (some ⟨ba0c0v4,0,none⟩)),(5,.pointer (some ⟨ba0c0v5,0,none⟩)),(6,.pointer (some ⟨ba0c0v6,0,none⟩))]) la0c0) #[14,15] p38_0 p38_1 Da0c0 [p38_2] 0::xblk ba0c0v3 3 ([.int .i64 a0c0v3v])::xblk ba0c0v4 109 ([.slice none 0 0,.map none,.map none])::xblk ba0c0v5 4 ([.bool t99])::xblk ba0c0v6 109 ([.slice Q101 t100.length Q102,.map (some ba0c0v6v_1),.map Q103])::xrow Q101 Q102 9 1 (t100.flatMap encS)::xmap ba0c0v6v_1 (Q141.map (kv Value.string eVH))::xblk ba1 32 ([.string y24,.func (.func 28) #[] #[.pointer (some ⟨ba1v_1c0,0,none⟩),.pointer (some ⟨ba1v_1c1,0,none⟩)],.func (.func 31) #[] #[.pointer (some ⟨ba1v_1c1,0,none⟩),.pointer (some ⟨ba1v_1c0,0,none⟩)],.func (.func 32) #[] #[.pointer (some ⟨ba1v_1c0,0,none⟩),.pointer (some ⟨ba1v_1c1,0,none⟩)]])::xblk ba1v_1c0 33 ([.pointer (some ⟨ba1v_1c0v,0,none⟩)])::xblk ba1v_1c0v 49 ([.map (some ba1v_1c0vv_0),.map (some ba1v_1c0vv_1),.map (some ba1v_1c0vv_2),.bool t121])::xmap ba1v_1c0vv_0 (t122.map (kv Value.string (Value.int .i64)))::xmap ba1v_1c0vv_1 (a1v_1c0vv_1m.map (kv Value.string (Value.int .i64)))::xmap ba1v_1c0vv_2 (t123.map (kv Value.string (Value.int .i64)))::xblk ba1v_1c1 26 ([.slice Aa1v_1c1v_0 a1v_1c1v.Next.length ca1v_1c1v_0,.slice Aa1v_1c1v_1 a1v_1c1v.End.length ca1v_1c1v_1,.slice Aa1v_1c1v_2 a1v_1c1v.Value.length ca1v_1c1v_2,.int .i64 a1v_1c1v.Start])::xblk ba2 130 ([.func (.func 47) #[] #[.pointer (some ⟨ba0c0v6,0,none⟩)]])::xmap b1 (t172.map (kv Value.string (fun v => Value.agg (enc_explore_visit v).toArray)))::xrow A168 c169 9 1 (t167.flatMap encS)::fs) w173),Runs Try.prog (fx 44) td43 (fill (mk 75 [(0,.func (.yield La0c0) #[] #[]),(1,.pointer (some ⟨ba1,0,none⟩)),(2,.pointer (some ⟨ba2,0,none⟩)),(4,.map (some b1)),(5,.slice A168 t167.length c169),(6,.string (gt t53 (0 : Int))),(42,.slice Q124 t120.length Q125),(43,.int .i64 (t120.length : Int)),(44,.int .i64 t171)]) l175) w173 R:=by
      refine explore_walk_1.l1.partial_correctness t53 t120 (fun t167 t171 t172 e176 => e176 = v154 → ∀ (l175 : List Value) (A168 : Option Addr) (c169 : Nat) (w173 : World) (hS174 : St w0 Z144 (xlp La0c0 38 (fill (mk 31 [(3,.pointer (some ⟨ba0c0v3,0,none⟩)),(4,.pointer (some ⟨ba0c0v4,0,none⟩)),(5,.pointer (some ⟨ba0c0v5,0,none⟩)),(6,.pointer (some ⟨ba0c0v6,0,none⟩))]) la0c0) #[14,15] p38_0 p38_1 Da0c0 [p38_2] 0::xblk ba0c0v3 3 ([.int .i64 a0c0v3v])::xblk ba0c0v4 109 ([.slice none 0 0,.map none,.map none])::xblk ba0c0v5 4 ([.bool t99])::xblk ba0c0v6 109 ([.slice Q101 t100.length Q102,.map (some ba0c0v6v_1),.map Q103])::xrow Q101 Q102 9 1 (t100.flatMap encS)::xmap ba0c0v6v_1 (Q141.map (kv Value.string eVH))::xblk ba1 32 ([.string y24,.func (.func 28) #[] #[.pointer (some ⟨ba1v_1c0,0,none⟩),.pointer (some ⟨ba1v_1c1,0,none⟩)],.func (.func 31) #[] #[.pointer (some ⟨ba1v_1c1,0,none⟩),.pointer (some ⟨ba1v_1c0,0,none⟩)],.func (.func 32) #[] #[.pointer (some ⟨ba1v_1c0,0,none⟩),.pointer (some ⟨ba1v_1c1,0,none⟩)]])::xblk ba1v_1c0 33 ([.pointer (some ⟨ba1v_1c0v,0,none⟩)])::xblk ba1v_1c0v 49 ([.map (some ba1v_1c0vv_0),.map (some ba1v_1c0vv_1),.map (some ba1v_1c0vv_2),.bool t121])::xmap ba1v_1c0vv_0 (t122.map (kv Value.string (Value.int .i64)))::xmap ba1v_1c0vv_1 (a1v_1c0vv_1m.map (kv Value.string (Value.int .i64)))::xmap ba1v_1c0vv_2 (t123.map (kv Value.string (Value.int .i64)))::xblk ba1v_1c1 26 ([.slice Aa1v_1c1v_0 a1v_1c1v.Next.length ca1v_1c1v_0,.slice Aa1v_1c1v_1 a1v_1c1v.End.length ca1v_1c1v_1,.slice Aa1v_1c1v_2 a1v_1c1v.Value.length ca1v_1c1v_2,.int .i64 a1v_1c1v.Start])::xblk ba2 130 ([.func (.func 47) #[] #[.pointer (some ⟨ba0c0v6,0,none⟩)]])::xmap b1 (t172.map (kv Value.string (fun v => Value.agg (enc_explore_visit v).toArray)))::xrow A168 c169 9 1 (t167.flatMap encS)::fs) w173),Runs Try.prog (fx 44) td43 (fill (mk 75 [(0,.func (.yield La0c0) #[] #[]),(1,.pointer (some ⟨ba1,0,none⟩)),(2,.pointer (some ⟨ba2,0,none⟩)),(4,.map (some b1)),(5,.slice A168 t167.length c169),(6,.string (gt t53 (0 : Int))),(42,.slice Q124 t120.length Q125),(43,.int .i64 (t120.length : Int)),(44,.int .i64 t171)]) l175) w173 R) ?_
      intro rec180 ih179 t167 t171 t172 e176 hb178 he177 l175 A168 c169 w173 hS174
      refine sI 3 (.inRegion (opsOf (cd44 [1,1,0,0,1,0,1,1,1,1,1,1,0,0,0])) []::.code (cd44 [1,1,0,0,1,0,1,1,1,1,1,1,0,0,1])::td42) 45 hb178 (fun hp184 => ?_) fun hp299 => ?_
      ·refine sR 8 (iR p44_24 0 4::.code (cd44 [1,1,0,0,1,0,1,1,1,1,1,1,0,0,1,1,0,0,1])::td45) ?_
       obtain ⟨g185,hp186⟩:=ite_some hp184
       obtain ⟨b187,p188,hA189,hc190⟩:=hs147.atF g185.1 g185.2
       refine r_indexAddr (c:=p44_24) (i:=0) (d:=(some 46)) (ty:=0) (t:=120) (e:=122) (n:=t120.length) (cp:=Q125) (sz:=4) (kk:=.i64) (x:=(.tmp 42)) (y:=(.tmp 44)) (b:=b187) (o':=p188) (j:=t171) (by kernel_rfl) (by kernel_rfl) (slv (by kernel_rfl) hA189) (by kernel_rfl) (by kernel_rfl) (by kernel_rfl) g185.1 g185.2 ?_
       refine rLa 122 (.tmp 46) (hc190.cells hS174) ?_
       refine rA 122 (.agg (enc_explore_edge (⟨⟨0,0,0⟩,(⟨#[]⟩ : ByteArray)⟩ : explore_edge)).toArray) (enc_explore_edge (⟨⟨0,0,0⟩,(⟨#[]⟩ : ByteArray)⟩ : explore_edge)) hS174 ?_
       intro b191 w192 hS193
       refine rSA 122 (.tmp 9) (.tmp 47) (enc_explore_edge (gt t120 t171)) hS193 (one_explore_edge _) ?_
       intro w195 hS196
       refine sR 5 (iR p44_27 2 8::.code p44_28::td45) ?_
       refine rL1 9 (.tmp 50) 3 (hS196.blk 0 rfl) ?_
       refine rV (.lookup 100 (.tmp 49) (.tmp 51) true) (.tuple #[.agg (enc_explore_visit ((mget t172 ((gt t120 t171).to)).getD (⟨0,(⟨#[]⟩ : ByteArray),⟨0,0,0⟩⟩ : explore_visit))).toArray,.bool ((mget t172 ((gt t120 t171).to)).isSome)]) (fun o ho _ => x_lookup2 (eK:=Value.string) (eV:=(fun v => Value.agg (enc_explore_visit v).toArray)) (dk:=.string) (b:=b1) (t:=100) (kt:=9) (et:=102) (m:=t172) (kk:=((gt t120 t171).to)) (z:=(⟨0,(⟨#[]⟩ : ByteArray),⟨0,0,0⟩⟩ : explore_visit)) (hS196.at 16 rfl) key_str (by kernel_rfl) (by kernel_rfl) (by kernel_rfl) (by kernel_rfl) (by kernel_rfl) ho) ?_
       obtain ⟨v197,hv198,hp199⟩:=bind_some' hp186
       have J203 : ∀ (t200 : Bool) (he205 : t200 = v197) (l204 : List Value) (w201 : World) (hS202 : St w0 Z144 (xlp La0c0 38 (fill (mk 31 [(3,.pointer (some ⟨ba0c0v3,0,none⟩)),(4,.pointer (some ⟨ba0c0v4,0,none⟩)),(5,.pointer (some ⟨ba0c0v5,0,none⟩)),(6,.pointer (some ⟨ba0c0v6,0,none⟩))]) la0c0) #[14,15] p38_0 p38_1 Da0c0 [p38_2] 0::xblk ba0c0v3 3 ([.int .i64 a0c0v3v])::xblk ba0c0v4 109 ([.slice none 0 0,.map none,.map none])::xblk ba0c0v5 4 ([.bool t99])::xblk ba0c0v6 109 ([.slice Q101 t100.length Q102,.map (some ba0c0v6v_1),.map Q103])::xrow Q101 Q102 9 1 (t100.flatMap encS)::xmap ba0c0v6v_1 (Q141.map (kv Value.string eVH))::xblk ba1 32 ([.string y24,.func (.func 28) #[] #[.pointer (some ⟨ba1v_1c0,0,none⟩),.pointer (some ⟨ba1v_1c1,0,none⟩)],.func (.func 31) #[] #[.pointer (some ⟨ba1v_1c1,0,none⟩),.pointer (some ⟨ba1v_1c0,0,none⟩)],.func (.func 32) #[] #[.pointer (some ⟨ba1v_1c0,0,none⟩),.pointer (some ⟨ba1v_1c1,0,none⟩)]])::xblk ba1v_1c0 33 ([.pointer (some ⟨ba1v_1c0v,0,none⟩)])::xblk ba1v_1c0v 49 ([.map (some ba1v_1c0vv_0),.map (some ba1v_1c0vv_1),.map (some ba1v_1c0vv_2),.bool t121])::xmap ba1v_1c0vv_0 (t122.map (kv Value.string (Value.int .i64)))::xmap ba1v_1c0vv_1 (a1v_1c0vv_1m.map (kv Value.string (Value.int .i64)))::xmap ba1v_1c0vv_2 (t123.map (kv Value.string (Value.int .i64)))::xblk ba1v_1c1 26 ([.slice Aa1v_1c1v_0 a1v_1c1v.Next.length ca1v_1c1v_0,.slice Aa1v_1c1v_1 a1v_1c1v.End.length ca1v_1c1v_1,.slice Aa1v_1c1v_2 a1v_1c1v.Value.length ca1v_1c1v_2,.int .i64 a1v_1c1v.Start])::xblk ba2 130 ([.func (.func 47) #[] #[.pointer (some ⟨ba0c0v6,0,none⟩)]])::xmap b1 (t172.map (kv Value.string (fun v => Value.agg (enc_explore_visit v).toArray)))::xrow A168 c169 9 1 (t167.flatMap encS)::xblk b191 122 (enc_explore_edge (gt t120 t171))::fs) w201),Runs Try.prog (fx 44) td47 (fill (mk 75 [(0,.func (.yield La0c0) #[] #[]),(1,.pointer (some ⟨ba1,0,none⟩)),(2,.pointer (some ⟨ba2,0,none⟩)),(4,.map (some b1)),(5,.slice A168 t167.length c169),(6,.string (gt t53 (0 : Int))),(9,.pointer (some ⟨b191,0,none⟩)),(11,.bool t200),(42,.slice Q124 t120.length Q125),(43,.int .i64 (t120.length : Int)),(44,.int .i64 t171)]) l204) w201 R:=by
        intro t200 he205 l204 w201 hS202
        subst he205
        try dsimp only at hp199
        refine sI 3 (.inRegion (opsOf p44_29) []::td46) 56 hp199 (fun hp208 => ?_) fun hp244 => ?_
        ·refine sR 6 (iR p44_31 2 11::td48) ?_
         refine rL1 9 (.tmp 58) 3 (hS202.blk 17 rfl) ?_
         refine sR 2 (iR p44_31 5 8::td48) ?_
         refine rV (.lookup 100 (.tmp 60) (.tmp 61) false) (.agg (enc_explore_visit ((mget t172 (gt t53 (0 : Int))).getD (⟨0,(⟨#[]⟩ : ByteArray),⟨0,0,0⟩⟩ : explore_visit))).toArray) (fun o ho _ => x_lookup1 (eK:=Value.string) (eV:=(fun v => Value.agg (enc_explore_visit v).toArray)) (dk:=.string) (b:=b1) (t:=100) (kt:=9) (et:=102) (m:=t172) (kk:=(gt t53 (0 : Int))) (z:=(⟨0,(⟨#[]⟩ : ByteArray),⟨0,0,0⟩⟩ : explore_visit)) (hS202.at 15 rfl) key_str (by kernel_rfl) (by kernel_rfl) (by kernel_rfl) (by kernel_rfl) (by kernel_rfl) ho) ?_
         refine sR 4 (.inRegion (opsOf p44_31) [10,11,12]::td48) ?_
         refine rLa 88 (.tmp 66) (sub_explore_edge_by (hS202.blk 17 rfl)) ?_
         refine sR 1 (.inRegion (opsOf p44_31) [12]::td48) ?_
         have hS209:=hS202.pick15
         refine r_mapUpdate (c:=p44_31) (i:=12) (d:=none) (ty:=0) (eK:=Value.string) (eV:=(fun v => Value.agg (enc_explore_visit v).toArray)) (dk:=.string) (b:=b1) (t:=100) (kt:=9) (et:=102) (x:=(.tmp 57)) (y:=(.tmp 59)) (z:=(.tmp 68)) (m:=t172) (kk:=((gt t120 t171).to)) (v:=(⟨(IntKind.i64.wrap ((((mget t172 (gt t53 (0 : Int))).getD (⟨0,(⟨#[]⟩ : ByteArray),⟨0,0,0⟩⟩ : explore_visit)).depth) + 1)),(gt t53 (0 : Int)),(gt t120 t171).by_⟩ : explore_visit)) hS209 (by kernel_rfl) (by kernel_rfl) key_str (by kernel_rfl) (by kernel_rfl) (by kernel_rfl) (by kernel_rfl) (by kernel_rfl) ?_
         intro w210 hS211
         refine sR 4 (iR p44_32 2 4::td45) ?_
         refine rL1 9 (.tmp 70) 3 (hS211.blk 17 rfl) ?_
         refine r_lit (c:=p44_32) (i:=3) (d:=(some 72)) (ty:=36) (t:=36) (e:=9) (sz:=1) (n:=1) (parts:=#[(0,(.tmp 71))]) (vs:=[(0,.string ((gt t120 t171).to))]) (z:=zeroOf Try.prog 9) (cs':=([(gt t120 t171).to] : List ByteArray).flatMap encS) hS211 (by kernel_rfl) (by kernel_rfl) (by kernel_rfl) (by kernel_rfl) (by kernel_rfl) (by decide) (by decide) (by kernel_rfl) rfl (Parts.cons (c:=[.string ((gt t120 t171).to)]) (by kernel_rfl) rfl Parts.nil) rfl ?_
         intro b213 w214 hS215
         have hS216:=hS215.pick17
         obtain ⟨g217,hp218⟩:=ite_some hp208
         refine r_append (c:=p44_32) (i:=4) (d:=(some 73)) (ty:=36) (enc:=encS) (e:=9) (u:=9) (t:=36) (t2:=36) (sz:=1) (cp:=c169) (A:=A168) (bytes:=16) (xs:=t167) (ys:=([(gt t120 t171).to] : List ByteArray)) (s:=(.tmp 69)) (x:=(.tmp 72)) (xv:=.slice (some ⟨b213,0,none⟩) ([(gt t120 t171).to] : List ByteArray).length 1) (info:=infoOf Try.prog 9) (z:=zeroOf Try.prog 9) (ycs:=([(gt t120 t171).to] : List ByteArray).flatMap encS) hS216 (by kernel_rfl) (by kernel_rfl) (by kernel_rfl) (by kernel_rfl) (by kernel_rfl) (.inl (by kernel_rfl)) (by kernel_rfl) (by kernel_rfl) (by kernel_rfl) (by kernel_rfl) (by kernel_rfl) (by omega) len_encS one_encS (src_row (hS216.row 1 rfl) (by omega) len_encS) rfl g217 (by omega) ?_
         intro A219 c220 w221 hS222
         refine sR 7 td42 ?_
         have hS224:=hS222.pick1
         have hS225:=hS224.drop
         have hS226:=hS225.pick17
         have hS227:=hS226.drop
         have hS228:=hS227.pick1
         have hS229:=hS228.pick16
         have hS230:=hS229.pick16
         have hS231:=hS230.pick16
         have hS232:=hS231.pick16
         have hS233:=hS232.pick16
         have hS234:=hS233.pick16
         have hS235:=hS234.pick16
         have hS236:=hS235.pick16
         have hS237:=hS236.pick16
         have hS238:=hS237.pick16
         have hS239:=hS238.pick16
         have hS240:=hS239.pick16
         have hS241:=hS240.pick16
         have hS242:=hS241.pick16
         have hS243:=hS242.pick16
         refine sR 1 td43 ?_
         exact rF _ (ih179 (t167 ++ ([(gt t120 t171).to] : List ByteArray)) (IntKind.i64.wrap (t171 + 1)) (mput t172 ((gt t120 t171).to) (⟨(IntKind.i64.wrap ((((mget t172 (gt t53 (0 : Int))).getD (⟨0,(⟨#[]⟩ : ByteArray),⟨0,0,0⟩⟩ : explore_visit)).depth) + 1)),(gt t53 (0 : Int)),(gt t120 t171).by_⟩ : explore_visit)) _ hp218 he177 _ A219 c220 _ hS243)
        refine sR 8 td42 ?_
        have hS245:=hS202.pick17
        have hS246:=hS245.drop
        refine sR 1 td43 ?_
        exact rF _ (ih179 (id t167) (IntKind.i64.wrap (t171 + 1)) (id t172) _ hp244 he177 _ A168 c169 _ hS246)
       refine sI 3 (.inRegion (opsOf p44_27) [7,8,9]::.code p44_28::td45) 54 hv198 (fun hp249 => ?_) fun hp274 => ?_
       ·refine rA 102 (.agg (enc_explore_visit (⟨0,(⟨#[]⟩ : ByteArray),⟨0,0,0⟩⟩ : explore_visit)).toArray) (enc_explore_visit (⟨0,(⟨#[]⟩ : ByteArray),⟨0,0,0⟩⟩ : explore_visit)) hS196 ?_
        intro b250 w251 hS252
        refine rSA 102 (.tmp 10) (.tmp 53) (enc_explore_visit ((mget t172 ((gt t120 t171).to)).getD (⟨0,(⟨#[]⟩ : ByteArray),⟨0,0,0⟩⟩ : explore_visit))) hS252 (one_explore_visit _) ?_
        intro w254 hS255
        refine sR 3 td47 ?_
        have hS256:=hS255.drop
        have hS257:=hS256.pick17
        have hS258:=hS257.pick17
        have hS259:=hS258.pick17
        have hS260:=hS259.pick17
        have hS261:=hS260.pick17
        have hS262:=hS261.pick17
        have hS263:=hS262.pick17
        have hS264:=hS263.pick17
        have hS265:=hS264.pick17
        have hS266:=hS265.pick17
        have hS267:=hS266.pick17
        have hS268:=hS267.pick17
        have hS269:=hS268.pick17
        have hS270:=hS269.pick17
        have hS271:=hS270.pick17
        have hS272:=hS271.pick17
        have hS273:=hS272.pick17
        exact rF _ (J203 true (Option.some.inj hp249) _ _ hS273)
       refine rA 102 (.agg (enc_explore_visit (⟨0,(⟨#[]⟩ : ByteArray),⟨0,0,0⟩⟩ : explore_visit)).toArray) (enc_explore_visit (⟨0,(⟨#[]⟩ : ByteArray),⟨0,0,0⟩⟩ : explore_visit)) hS196 ?_
       intro b275 w276 hS277
       refine rSA 102 (.tmp 10) (.tmp 53) (enc_explore_visit ((mget t172 ((gt t120 t171).to)).getD (⟨0,(⟨#[]⟩ : ByteArray),⟨0,0,0⟩⟩ : explore_visit))) hS277 (one_explore_visit _) ?_
       intro w279 hS280
       refine sR 3 td47 ?_
       have hS281:=hS280.drop
       have hS282:=hS281.pick17
       have hS283:=hS282.pick17
       have hS284:=hS283.pick17
       have hS285:=hS284.pick17
       have hS286:=hS285.pick17
       have hS287:=hS286.pick17
       have hS288:=hS287.pick17
       have hS289:=hS288.pick17
       have hS290:=hS289.pick17
       have hS291:=hS290.pick17
       have hS292:=hS291.pick17
       have hS293:=hS292.pick17
       have hS294:=hS293.pick17
       have hS295:=hS294.pick17
       have hS296:=hS295.pick17
       have hS297:=hS296.pick17
       have hS298:=hS297.pick17
       exact rF _ (J203 false (Option.some.inj hp274) _ _ hS298)
      refine sR 4 td39 ?_
      exact rF _ (J164 t167 t172 ((Option.some.inj hp299).trans he177) _ A168 c169 _ hS174)
     have hS300:=hS152.pick14
     have hS301:=hS300.pick10
     have hS302:=hS301.pick16
     have hS303:=hS302.pick11
     have hS304:=hS303.pick11
     have hS305:=hS304.pick11
     have hS306:=hS305.pick11
     have hS307:=hS306.pick11
     have hS308:=hS307.pick11
     have hS309:=hS308.pick16
     have hS310:=hS309.pick12
     have hS311:=hS310.pick12
     have hS312:=hS311.pick12
     have hS313:=hS312.pick16
     have hS314:=hS313.pick16
     have hS315:=hS314.pick16
     have hS316:=hS315.pick16
     exact rF _ (L181 ((t53.take t53.length).drop ((1 : Int).toNat)) 0 t69 _ hv155 rfl _ A91 c92 _ hS316)
    have hp317:=ite_f hp105 h118
    refine sR 3 (.code (cd44 [1,1,0,0,1,0,1,1,0,1,0])::.code p44_14::td39) ?_
    have hS318:=hS116.pick1
    have hS319:=hS318.drop
    have hS320:=hS319.pick7
    have hS321:=hS320.drop
    refine rR (.tuple #[]) Try.func44 ?_
    cases hq79 _ (Option.some.inj hp317)
    exact hR _ _ ⟨Q101,Q102,Q103,mh64,Z51,hz52,rfl,hS321,hm65⟩
   refine sR 3 [] ?_
   have hS324:=hS71.pick15
   have hS325:=hS324.drop
   have hS326:=hS325.pick15
   have hS327:=hS326.drop
   exact rF _ (J32 t57 t58 t63 t66 t67 t68 ((Option.some.inj hp323).trans he74) _ Z51 A59 c60 v62 mh64 _ hz52 hS327 hm65)
  have hS329:=hS11.nilrow none 9 1
  have hS330:=hS329.pick1
  have hS331:=hS330.pick2
  have hS332:=hS331.pick16
  have hS333:=hS332.pick16
  have hS334:=hS333.pick16
  have hS335:=hS334.pick16
  have hS336:=hS335.pick16
  have hS337:=hS336.pick16
  have hS338:=hS337.pick16
  have hS339:=hS338.pick16
  have hS340:=hS339.pick16
  have hS341:=hS340.pick11
  have hS342:=hS341.pick16
  have hS343:=hS342.pick16
  have hS344:=hS343.pick16
  have hS345:=hS344.pick16
  have hS346:=hS345.pick16
  exact rF _ (L78 ([y24] : List ByteArray) a0c0v5v [] a0c0v6v_1m a1v_1c0vv_3 a1v_1c0vv_0m a1v_1c0vv_2m (mput ([] : List (ByteArray × explore_visit)) y24 (⟨0,(⟨#[]⟩ : ByteArray),(⟨0,0,0⟩ : api_Pick)⟩ : explore_visit)) _ hv13 rfl _ Z (some ⟨b9,0,none⟩) 1 none 0 none ma0c0v6v_1 _ (Zm.Le.refl _) hS346 hma0c0v6v_1)

def explore_all.f (y9 : ByteArray) (a0_1c0vv_0m a0_1c0vv_1m a0_1c0vv_2m : List (ByteArray × Int)) (a0_1c0vv_3 : Bool) (a0_1c1v : weirlaw14_Net) (a1 : Int) : Option ((List ByteArray) × (List (ByteArray × (List explore_edge))) × Bool × Bool × (List (ByteArray × Int)) × (List (ByteArray × Int))) :=
  (explore_walk.f y9 a0_1c0vv_0m a0_1c0vv_1m a0_1c0vv_2m a0_1c0vv_3 a0_1c1v ([] : List ByteArray) ([] : List (ByteArray × (List explore_edge))) >>= (fun t28 => (explore_walk_1.f a1 false ([] : List (ByteArray × (List explore_edge))) t28 a0_1c0vv_0m a0_1c0vv_1m a0_1c0vv_2m a0_1c0vv_3 a0_1c1v >>= (fun (t59,t60,t61,t62,t63,t64,t65) => (if decide (t59 = 0) = true then some ((t61,t62,true,t63,t64,t65)) else (if t59 = 1 then some (([],[],t60,t63,t64,t65)) else none))))))
theorem explore_all.ok {y9 : ByteArray} {a0_1c0vv_0m a0_1c0vv_1m a0_1c0vv_2m : List (ByteArray × Int)} {a0_1c0vv_3 : Bool} {a0_1c1v : weirlaw14_Net} {a1 : Int} {ba0_1c0 ba0_1c0v : Nat} {ba0_1c0vv_0 ba0_1c0vv_1 : Nat} {ba0_1c0vv_2 ba0_1c1 : Nat} {Aa0_1c1v_0 : Option Addr} {ca0_1c1v_0 : Nat} {Aa0_1c1v_1 : Option Addr} {ca0_1c1v_1 : Nat} {Aa0_1c1v_2 : Option Addr} {ca0_1c1v_2 : Nat} {q0 : List ByteArray} {q1 : List (ByteArray × (List explore_edge))} {q2 q3 : Bool} {q4 q5 : List (ByteArray × Int)} (hp0 : explore_all.f y9 a0_1c0vv_0m a0_1c0vv_1m a0_1c0vv_2m a0_1c0vv_3 a0_1c1v a1 = some (q0,q1,q2,q3,q4,q5)) (hS0 : St w0 Z (xblk ba0_1c0 33 ([.pointer (some ⟨ba0_1c0v,0,none⟩)])::xblk ba0_1c0v 49 ([.map (some ba0_1c0vv_0),.map (some ba0_1c0vv_1),.map (some ba0_1c0vv_2),.bool a0_1c0vv_3])::xmap ba0_1c0vv_0 (a0_1c0vv_0m.map (kv Value.string (Value.int .i64)))::xmap ba0_1c0vv_1 (a0_1c0vv_1m.map (kv Value.string (Value.int .i64)))::xmap ba0_1c0vv_2 (a0_1c0vv_2m.map (kv Value.string (Value.int .i64)))::xblk ba0_1c1 26 ([.slice Aa0_1c1v_0 a0_1c1v.Next.length ca0_1c1v_0,.slice Aa0_1c1v_1 a0_1c1v.End.length ca0_1c1v_1,.slice Aa0_1c1v_2 a0_1c1v.Value.length ca0_1c1v_2,.int .i64 a0_1c1v.Start])::fs) w) (ha0_1c1v_0 : SlZ (repL (flat (encI .i64)) 1) 1 Z Aa0_1c1v_0 ca0_1c1v_0 a0_1c1v.Next) (ha0_1c1v_1 : SlZ (flat encB) 1 Z Aa0_1c1v_1 ca0_1c1v_1 a0_1c1v.End) (ha0_1c1v_2 : SlZ (flat (encI .i64)) 1 Z Aa0_1c1v_2 ca0_1c1v_2 a0_1c1v.Value) :
    Calls Try.prog 38 #[.agg #[.string y9,.func (.func 28) #[] #[.pointer (some ⟨ba0_1c0,0,none⟩),.pointer (some ⟨ba0_1c1,0,none⟩)],.func (.func 31) #[] #[.pointer (some ⟨ba0_1c1,0,none⟩),.pointer (some ⟨ba0_1c0,0,none⟩)],.func (.func 32) #[] #[.pointer (some ⟨ba0_1c0,0,none⟩),.pointer (some ⟨ba0_1c1,0,none⟩)]],.int .i64 a1] w (fun e w' => ∃ (QA0 : Option Addr) (Qc0 : Nat) (Qb2 : Option Nat) (Qm3 : List (ByteArray × Hh × List explore_edge)) (Qv4 : Option Nat) (Z' : Zm),Zm.Le Z Z' ∧ e = .returned (.tuple #[.agg #[.slice QA0 q0.length Qc0,.map Qb2,.map Qv4],.bool q2]) ∧ St w0 Z' (xrow QA0 Qc0 9 1 (q0.flatMap encS)::xmo Qb2 (Qm3.map (kv Value.string eVH))::xblk ba0_1c0 33 ([.pointer (some ⟨ba0_1c0v,0,none⟩)])::xblk ba0_1c0v 49 ([.map (some ba0_1c0vv_0),.map (some ba0_1c0vv_1),.map (some ba0_1c0vv_2),.bool q3])::xmap ba0_1c0vv_0 (q4.map (kv Value.string (Value.int .i64)))::xmap ba0_1c0vv_1 (a0_1c0vv_1m.map (kv Value.string (Value.int .i64)))::xmap ba0_1c0vv_2 (q5.map (kv Value.string (Value.int .i64)))::xblk ba0_1c1 26 ([.slice Aa0_1c1v_0 a0_1c1v.Next.length ca0_1c1v_0,.slice Aa0_1c1v_1 a0_1c1v.End.length ca0_1c1v_1,.slice Aa0_1c1v_2 a0_1c1v.Value.length ca0_1c1v_2,.int .i64 a0_1c1v.Start])::fs) w' ∧ MZ enc_explore_edge 4 Z' Qm3 q1):=by
  refine calls_abs ?_; intro R hR
  unfold explore_all.f at hp0
  refine calls_of_runs (fn:=Try.f38) (c:=cd38 []) Try.func38 (by kernel_rfl) (al:=[.agg #[.string y9,.func (.func 28) #[] #[.pointer (some ⟨ba0_1c0,0,none⟩),.pointer (some ⟨ba0_1c1,0,none⟩)],.func (.func 31) #[] #[.pointer (some ⟨ba0_1c1,0,none⟩),.pointer (some ⟨ba0_1c0,0,none⟩)],.func (.func 32) #[] #[.pointer (some ⟨ba0_1c0,0,none⟩),.pointer (some ⟨ba0_1c1,0,none⟩)]],.int .i64 a1]) rfl (n:=29) rfl ?_
  refine sR 2 [iR (cd38 [0]) 0 4,.code (cd38 [1])] ?_
  refine r_box (c:=(cd38 [0])) (i:=0) (d:=(some 2)) (ty:=0) (x:=(.tmp 0)) (v:=.agg #[.string y9,.func (.func 28) #[] #[.pointer (some ⟨ba0_1c0,0,none⟩),.pointer (some ⟨ba0_1c1,0,none⟩)],.func (.func 31) #[] #[.pointer (some ⟨ba0_1c1,0,none⟩),.pointer (some ⟨ba0_1c0,0,none⟩)],.func (.func 32) #[] #[.pointer (some ⟨ba0_1c0,0,none⟩),.pointer (some ⟨ba0_1c1,0,none⟩)]]) (t:=32) (cs:=[.string y9,.func (.func 28) #[] #[.pointer (some ⟨ba0_1c0,0,none⟩),.pointer (some ⟨ba0_1c1,0,none⟩)],.func (.func 31) #[] #[.pointer (some ⟨ba0_1c1,0,none⟩),.pointer (some ⟨ba0_1c0,0,none⟩)],.func (.func 32) #[] #[.pointer (some ⟨ba0_1c0,0,none⟩),.pointer (some ⟨ba0_1c1,0,none⟩)]]) hS0 (by kernel_rfl) (by kernel_rfl) (by kernel_rfl) (by kernel_rfl) ?_
  intro b1 w2 hS3
  refine r_box (c:=(cd38 [0])) (i:=1) (d:=(some 3)) (ty:=0) (x:=(.tmp 1)) (v:=.int .i64 a1) (t:=3) (cs:=[.int .i64 a1]) hS3 (by kernel_rfl) (by kernel_rfl) (by kernel_rfl) (by kernel_rfl) ?_
  intro b5 w6 hS7
  refine rA 109 (.agg #[.slice none 0 0,.map none,.map none]) [.slice none 0 0,.map none,.map none] hS7 ?_
  intro b9 w10 hS11
  refine rA 4 (.bool false) [.bool false] hS11 ?_
  intro b13 w14 hS15
  refine sR 3 [iR (cd38 [1,0]) 0 4,.code (cd38 [1,1])] ?_
  refine r_makeMap (c:=(cd38 [1,0])) (i:=0) (d:=(some 9)) (ty:=107) (t:=107) hS15 (by kernel_rfl) (by kernel_rfl) ?_
  intro b17 w18 hS19
  have hS21 : St w0 Z (xmap b17 (([] : List (ByteArray × Hh × List explore_edge)).map (kv Value.string eVH))::xblk b13 4 ([.bool false])::xblk b9 109 ([.slice none 0 0,.map none,.map none])::xblk b5 3 ([.int .i64 a1])::xblk b1 32 ([.string y9,.func (.func 28) #[] #[.pointer (some ⟨ba0_1c0,0,none⟩),.pointer (some ⟨ba0_1c1,0,none⟩)],.func (.func 31) #[] #[.pointer (some ⟨ba0_1c1,0,none⟩),.pointer (some ⟨ba0_1c0,0,none⟩)],.func (.func 32) #[] #[.pointer (some ⟨ba0_1c0,0,none⟩),.pointer (some ⟨ba0_1c1,0,none⟩)]])::xblk ba0_1c0 33 ([.pointer (some ⟨ba0_1c0v,0,none⟩)])::xblk ba0_1c0v 49 ([.map (some ba0_1c0vv_0),.map (some ba0_1c0vv_1),.map (some ba0_1c0vv_2),.bool a0_1c0vv_3])::xmap ba0_1c0vv_0 (a0_1c0vv_0m.map (kv Value.string (Value.int .i64)))::xmap ba0_1c0vv_1 (a0_1c0vv_1m.map (kv Value.string (Value.int .i64)))::xmap ba0_1c0vv_2 (a0_1c0vv_2m.map (kv Value.string (Value.int .i64)))::xblk ba0_1c1 26 ([.slice Aa0_1c1v_0 a0_1c1v.Next.length ca0_1c1v_0,.slice Aa0_1c1v_1 a0_1c1v.End.length ca0_1c1v_1,.slice Aa0_1c1v_2 a0_1c1v.Value.length ca0_1c1v_2,.int .i64 a0_1c1v.Start])::fs) w18:=hS19
  refine sR 1 [.inRegion (opsOf (cd38 [1,0])) [2,3],.code (cd38 [1,1])] ?_
  refine rA 109 (.agg #[.slice none 0 0,.map none,.map none]) [.slice none 0 0,.map none,.map none] hS21 ?_
  intro b22 w23 hS24
  refine rS 109 (.tmp 6) (.tmp 10) 0 (.agg #[.slice none 0 0,.map (some b17),.map none]) [.slice none 0 0,.map (some b17),.map none] [.slice none 0 0,.map (some b17),.map none] hS24 ?_
  intro w26 hS27
  refine sR 4 [.inRegion (opsOf (cd38 [1,1,0,0])) [0,1,2],.code (cd38 [1,1,0,1]),.code (cd38 [1,1,1])] ?_
  refine rLa 32 (.tmp 2) (hS27.blk 5 rfl) ?_
  refine sR 1 [.inRegion (opsOf (cd38 [1,1,0,0])) [2],.code (cd38 [1,1,0,1]),.code (cd38 [1,1,1])] ?_
  obtain ⟨t28,hr31,hp32⟩:=bind_some' hp0
  have hS39:=hS27.pick1
  have hS40:=hS39.pick1
  have hS41:=hS40.pick11
  have hS42:=hS41.pick11
  have hS43:=hS42.pick11
  have hS44:=hS43.pick11
  have hS45:=hS44.pick11
  have hS46:=hS45.pick11
  refine rC (explore_walk.ok hr31 hS46 ha0_1c1v_0 ha0_1c1v_1 ha0_1c1v_2 (SlZ.nil _ _ _ _ _) MZ.nil) ?_
  rintro _ w47 ⟨Q29,Q30,rfl,hS48⟩
  refine ⟨_,rfl,?_⟩
  refine sR 2 [.code (cd38 [1,1,0,1,0]),.inBlock 0,.code (cd38 [1,1,1])] ?_
  have hS49:=hS48.pick13
  have hS50:=hS49.drop
  refine Runs.fillG (m:=(mk 31 [(3,.pointer (some ⟨b5,0,none⟩)),(4,.pointer (some ⟨b9,0,none⟩)),(5,.pointer (some ⟨b13,0,none⟩)),(6,.pointer (some ⟨b22,0,none⟩)),(13,.func (.func 44) #[] #[.pointer (some ⟨Q29,0,none⟩),.pointer (some ⟨Q30,0,none⟩)])])) (by kernel_rfl) ?_
  intro l51
  refine r_rangeF (c:=(cd38 [1,1,0,1,0])) (g:=(.tmp 13)) (ps:=#[14,15]) (am:=p38_0) (bd:=p38_1) (gf:=44) (caps:=#[.pointer (some ⟨Q29,0,none⟩),.pointer (some ⟨Q30,0,none⟩)]) (args:=fun L => #[.func (.yield L) #[] #[],.pointer (some ⟨Q29,0,none⟩),.pointer (some ⟨Q30,0,none⟩)]) [p38_2] hS50 (by kernel_rfl) (by kernel_rfl) (fun _ => (by kernel_rfl)) ?_
  intro D53 L52 w54 hS55
  have hS58 : St w0 Z (xlp L52 38 (fill (mk 31 [(3,.pointer (some ⟨b5,0,none⟩)),(4,.pointer (some ⟨b9,0,none⟩)),(5,.pointer (some ⟨b13,0,none⟩)),(6,.pointer (some ⟨b22,0,none⟩))]) (fill (mk 31 [(3,.pointer (some ⟨b5,0,none⟩)),(4,.pointer (some ⟨b9,0,none⟩)),(5,.pointer (some ⟨b13,0,none⟩)),(6,.pointer (some ⟨b22,0,none⟩)),(13,.func (.func 44) #[] #[.pointer (some ⟨Q29,0,none⟩),.pointer (some ⟨Q30,0,none⟩)])]) l51)) #[14,15] p38_0 p38_1 D53 [p38_2] 0::xdef D53::xblk Q29 32 ([.string t28,.func (.func 28) #[] #[.pointer (some ⟨ba0_1c0,0,none⟩),.pointer (some ⟨ba0_1c1,0,none⟩)],.func (.func 31) #[] #[.pointer (some ⟨ba0_1c1,0,none⟩),.pointer (some ⟨ba0_1c0,0,none⟩)],.func (.func 32) #[] #[.pointer (some ⟨ba0_1c0,0,none⟩),.pointer (some ⟨ba0_1c1,0,none⟩)]])::xblk Q30 130 ([.func (.func 47) #[] #[.pointer (some ⟨b22,0,none⟩)]])::xblk ba0_1c0 33 ([.pointer (some ⟨ba0_1c0v,0,none⟩)])::xblk ba0_1c0v 49 ([.map (some ba0_1c0vv_0),.map (some ba0_1c0vv_1),.map (some ba0_1c0vv_2),.bool a0_1c0vv_3])::xmap ba0_1c0vv_0 (a0_1c0vv_0m.map (kv Value.string (Value.int .i64)))::xmap ba0_1c0vv_1 (a0_1c0vv_1m.map (kv Value.string (Value.int .i64)))::xmap ba0_1c0vv_2 (a0_1c0vv_2m.map (kv Value.string (Value.int .i64)))::xblk ba0_1c1 26 ([.slice Aa0_1c1v_0 a0_1c1v.Next.length ca0_1c1v_0,.slice Aa0_1c1v_1 a0_1c1v.End.length ca0_1c1v_1,.slice Aa0_1c1v_2 a0_1c1v.Value.length ca0_1c1v_2,.int .i64 a0_1c1v.Start])::xblk b22 109 ([.slice none 0 0,.map (some b17),.map none])::xmap b17 (([] : List (ByteArray × Hh × List explore_edge)).map (kv Value.string eVH))::xblk b13 4 ([.bool false])::xblk b9 109 ([.slice none 0 0,.map none,.map none])::xblk b5 3 ([.int .i64 a1])::fs) w54:=hS55
  obtain ⟨⟨t59,t60,t61,t62,t63,t64,t65⟩,hr70,hp71⟩:=bind_some' hp32
  try dsimp only at hp71
  have hS76:=hS58.pick3
  have hS77:=hS76.pick9
  have hS78:=hS77.pick9
  have hS79:=hS78.pick9
  have hS80:=hS79.pick9
  have hS81:=hS80.pick9
  have hS82:=hS81.pick9
  have hS83:=hS82.pick9
  have hS84:=hS83.pick11
  have hS85:=hS84.pick11
  have hS86:=hS85.pick12
  have hS87:=hS86.pick13
  have hS88:=hS87.pick14
  have hS89:=hS88.pick13
  refine ⟨_,(explore_walk_1.ok hr70 hS89 MZ.nil ha0_1c1v_0 ha0_1c1v_1 ha0_1c1v_2),?_⟩
  rintro _ w90 ⟨Q66,Q67,Q68,Q69,Z92,hz93,rfl,hS91,hs94⟩
  refine ⟨⟨_,rfl⟩,?_⟩
  have hS95:=hS91.pick1
  rcases Bool.eq_false_or_eq_true (decide (t59 = 0)) with h96 | h97
  ·have hp98:=ite_t hp71 h96
   have hS99 : St w0 Z92 (xlp L52 38 (fill (mk 31 [(3,.pointer (some ⟨b5,0,none⟩)),(4,.pointer (some ⟨b9,0,none⟩)),(5,.pointer (some ⟨b13,0,none⟩)),(6,.pointer (some ⟨b22,0,none⟩))]) (fill (mk 31 [(3,.pointer (some ⟨b5,0,none⟩)),(4,.pointer (some ⟨b9,0,none⟩)),(5,.pointer (some ⟨b13,0,none⟩)),(6,.pointer (some ⟨b22,0,none⟩)),(13,.func (.func 44) #[] #[.pointer (some ⟨Q29,0,none⟩),.pointer (some ⟨Q30,0,none⟩)])]) l51)) #[14,15] p38_0 p38_1 D53 [p38_2] 0::xrow Q66 Q67 9 1 (t61.flatMap encS)::xblk b5 3 ([.int .i64 a1])::xblk b9 109 ([.slice none 0 0,.map none,.map none])::xblk b13 4 ([.bool t60])::xblk b22 109 ([.slice Q66 t61.length Q67,.map (some b17),.map Q68])::xmap b17 (Q69.map (kv Value.string eVH))::xblk Q29 32 ([.string t28,.func (.func 28) #[] #[.pointer (some ⟨ba0_1c0,0,none⟩),.pointer (some ⟨ba0_1c1,0,none⟩)],.func (.func 31) #[] #[.pointer (some ⟨ba0_1c1,0,none⟩),.pointer (some ⟨ba0_1c0,0,none⟩)],.func (.func 32) #[] #[.pointer (some ⟨ba0_1c0,0,none⟩),.pointer (some ⟨ba0_1c1,0,none⟩)]])::xblk ba0_1c0 33 ([.pointer (some ⟨ba0_1c0v,0,none⟩)])::xblk ba0_1c0v 49 ([.map (some ba0_1c0vv_0),.map (some ba0_1c0vv_1),.map (some ba0_1c0vv_2),.bool t63])::xmap ba0_1c0vv_0 (t64.map (kv Value.string (Value.int .i64)))::xmap ba0_1c0vv_1 (a0_1c0vv_1m.map (kv Value.string (Value.int .i64)))::xmap ba0_1c0vv_2 (t65.map (kv Value.string (Value.int .i64)))::xblk ba0_1c1 26 ([.slice Aa0_1c1v_0 a0_1c1v.Next.length ca0_1c1v_0,.slice Aa0_1c1v_1 a0_1c1v.End.length ca0_1c1v_1,.slice Aa0_1c1v_2 a0_1c1v.Value.length ca0_1c1v_2,.int .i64 a0_1c1v.Start])::xblk Q30 130 ([.func (.func 47) #[] #[.pointer (some ⟨b22,0,none⟩)]])::xdef D53::fs) w90:=by have h:=hS95; rw [of_decide_eq_true h96] at h; exact h
   refine r_endF0 hS99 ?_
   intro w100 hS101
   refine sR 3 [.inRegion (opsOf (cd38 [1,1,1,0])) [0,1,2],.code (cd38 [1,1,1,1])] ?_
   refine rLa 109 (.tmp 6) (hS101.blk 4 rfl) ?_
   have hS102:=hS101.pick2
   refine rS 109 (.tmp 4) (.tmp 30) 0 (.agg #[.slice Q66 t61.length Q67,.map (some b17),.map Q68]) [.slice Q66 t61.length Q67,.map (some b17),.map Q68] [.slice Q66 t61.length Q67,.map (some b17),.map Q68] hS102 ?_
   intro w103 hS104
   have hS105:=hS104.pick3
   refine rS 4 (.tmp 5) (.const (.bool true)) 0 (.bool true) [.bool true] [.bool true] hS105 ?_
   intro w106 hS107
   refine sR 1 [.code (cd38 [1,1,1,1])] ?_
   refine runsC_ret (fn:=Try.f38) Try.func38 ?_
   have hS108:=hS107.pick14
   refine leavesC_cons hS108 ?_
   intro w109 hS110
   have hS111:=hS110.drop
   have hS112:=hS111.drop
   have hS113:=hS112.pick1
   have hS114:=hS113.drop
   have hS115:=hS114.pick1
   have hS116:=hS115.drop
   have hS117:=hS116.pick2
   have hS118:=hS117.drop
   have hS119:=hS118.pick8
   have hS120:=hS119.drop
   refine leavesC_nil (v:=.tuple #[.agg #[.slice Q66 t61.length Q67,.map (some b17),.map Q68],.bool true]) (resl_run (fn:=Try.f38) (by kernel_rfl) (.cell (t:=4) (ty:=109) (by kernel_rfl) (loads_agg (hS110.blk 1 rfl) (by kernel_rfl) (by kernel_rfl)) (.cell (t:=5) (ty:=4) (by kernel_rfl) (loads_at 0 (hS110.blk 0 rfl) (by kernel_rfl) (by kernel_rfl)) .nil))) ?_
   cases Option.some.inj hp98
   exact hR _ _ ⟨Q66,Q67,(some b17),Q69,Q68,Z92,hz93,rfl,hS120,hs94⟩
  have hp122:=ite_f hp71 h97
  obtain ⟨g123,hp124⟩:=ite_some hp122
  have hS125 : St w0 Z92 (xlp L52 38 (fill (mk 31 [(3,.pointer (some ⟨b5,0,none⟩)),(4,.pointer (some ⟨b9,0,none⟩)),(5,.pointer (some ⟨b13,0,none⟩)),(6,.pointer (some ⟨b22,0,none⟩))]) (fill (mk 31 [(3,.pointer (some ⟨b5,0,none⟩)),(4,.pointer (some ⟨b9,0,none⟩)),(5,.pointer (some ⟨b13,0,none⟩)),(6,.pointer (some ⟨b22,0,none⟩)),(13,.func (.func 44) #[] #[.pointer (some ⟨Q29,0,none⟩),.pointer (some ⟨Q30,0,none⟩)])]) l51)) #[14,15] p38_0 p38_1 D53 [p38_2] 1::xrow Q66 Q67 9 1 (t61.flatMap encS)::xblk b5 3 ([.int .i64 a1])::xblk b9 109 ([.slice none 0 0,.map none,.map none])::xblk b13 4 ([.bool t60])::xblk b22 109 ([.slice Q66 t61.length Q67,.map (some b17),.map Q68])::xmap b17 (Q69.map (kv Value.string eVH))::xblk Q29 32 ([.string t28,.func (.func 28) #[] #[.pointer (some ⟨ba0_1c0,0,none⟩),.pointer (some ⟨ba0_1c1,0,none⟩)],.func (.func 31) #[] #[.pointer (some ⟨ba0_1c1,0,none⟩),.pointer (some ⟨ba0_1c0,0,none⟩)],.func (.func 32) #[] #[.pointer (some ⟨ba0_1c0,0,none⟩),.pointer (some ⟨ba0_1c1,0,none⟩)]])::xblk ba0_1c0 33 ([.pointer (some ⟨ba0_1c0v,0,none⟩)])::xblk ba0_1c0v 49 ([.map (some ba0_1c0vv_0),.map (some ba0_1c0vv_1),.map (some ba0_1c0vv_2),.bool t63])::xmap ba0_1c0vv_0 (t64.map (kv Value.string (Value.int .i64)))::xmap ba0_1c0vv_1 (a0_1c0vv_1m.map (kv Value.string (Value.int .i64)))::xmap ba0_1c0vv_2 (t65.map (kv Value.string (Value.int .i64)))::xblk ba0_1c1 26 ([.slice Aa0_1c1v_0 a0_1c1v.Next.length ca0_1c1v_0,.slice Aa0_1c1v_1 a0_1c1v.End.length ca0_1c1v_1,.slice Aa0_1c1v_2 a0_1c1v.Value.length ca0_1c1v_2,.int .i64 a0_1c1v.Start])::xblk Q30 130 ([.func (.func 47) #[] #[.pointer (some ⟨b22,0,none⟩)]])::xdef D53::fs) w90:=by have h:=hS95; rw [g123] at h; exact h
  refine r_endFj 0 (cj:=p38_2) (by kernel_rfl) hS125 ?_
  intro w126 hS127
  refine runsC_ret (fn:=Try.f38) Try.func38 ?_
  have hS128:=hS127.pick14
  refine leavesC_cons hS128 ?_
  intro w129 hS130
  have hS132:=hS130.nilrow none 9 1
  have hS134:=hS132.xmoNone
  have hS135:=hS134.pick2
  have hS136:=hS135.drop
  have hS137:=hS136.pick2
  have hS138:=hS137.drop
  have hS139:=hS138.pick2
  have hS140:=hS139.drop
  have hS141:=hS140.pick2
  have hS142:=hS141.drop
  have hS143:=hS142.pick2
  have hS144:=hS143.drop
  have hS145:=hS144.pick2
  have hS146:=hS145.drop
  have hS147:=hS146.pick2
  have hS148:=hS147.drop
  have hS149:=hS148.pick8
  have hS150:=hS149.drop
  have hS151:=hS150.pick7
  have hS152:=hS151.pick7
  have hS153:=hS152.pick7
  have hS154:=hS153.pick7
  have hS155:=hS154.pick7
  have hS156:=hS155.pick7
  have hS157:=hS156.pick6
  have hS158:=hS157.pick7
  refine leavesC_nil (v:=.tuple #[.agg #[.slice none 0 0,.map none,.map none],.bool t60]) (resl_run (fn:=Try.f38) (by kernel_rfl) (.cell (t:=4) (ty:=109) (by kernel_rfl) (loads_agg (hS130.blk 2 rfl) (by kernel_rfl) (by kernel_rfl)) (.cell (t:=5) (ty:=4) (by kernel_rfl) (loads_at 0 (hS130.blk 3 rfl) (by kernel_rfl) (by kernel_rfl)) .nil))) ?_
  cases Option.some.inj hp124
  exact hR _ _ ⟨none,0,none,[],none,Z92,hz93,rfl,hS158,MZ.nil⟩

noncomputable def cd39 (p : List Nat) : Code := sub (bodyOf Try.f39) p
abbrev p39_8:=cd39 [1,1,1,1,0,0]
abbrev p39_18:=cd39 [1,1,1,1,1,0,0,0,1,0,0]
abbrev p39_22:=cd39 [1,1,1,1,1,0,0,0,1,0,1,1,0]
abbrev p39_24:=cd39 [1,1,1,1,1,0,0,0,1,0,1,1,1,0]
abbrev p39_25:=cd39 [1,1,1,1,1,0,0,0,1,0,1,1,1,1]
abbrev p39_26:=cd39 [1,1,1,1,1,0,0,0,1,0,1,1,1,1,0,0]
abbrev p39_29:=cd39 [1,1,1,1,1,0,0,0,1,0,1,1,1,1,0,0,1,1,0,0,0]
abbrev p39_32:=cd39 [1,1,1,1,1,0,0,0,1,0,1,1,1,1,0,0,1,1,0,0,1,0]
abbrev p39_33:=cd39 [1,1,1,1,1,0,0,0,1,0,1,1,1,1,0,0,1,1,0,0,1,1]
abbrev p39_34:=cd39 [1,1,1,1,1,0,0,0,1,0,1,1,1,1,0,0,1,1,0,0,1,1,0]
abbrev p39_35:=cd39 [1,1,1,1,1,0,0,0,1,0,1,1,1,1,0,0,1,1,0,0,1,1,1]
abbrev p39_36:=cd39 [1,1,1,1,1,0,0,0,1,0,1,1,1,1,0,0,1,1,0,0,1,1,1,0,0]
abbrev p39_37:=cd39 [1,1,1,1,1,0,0,0,1,0,1,1,1,1,0,0,1,1,0,0,1,1,1,0,1]
abbrev p39_38:=cd39 [1,1,1,1,0,1,0]
abbrev p39_41:=cd39 [1,1,0,1,0,0,1,1,0,0,0]
abbrev p39_44:=cd39 [1,1,0,1,0,0,1,1,0,0,1,0]
abbrev p39_45:=cd39 [1,1,0,1,0,0,1,1,0,0,1,1]
abbrev p39_46:=cd39 [1,1,0,1,0,0,1,1,0,0,1,1,0,0]
abbrev p39_49:=cd39 [1,1,0,1,0,0,1,1,0,0,1,1,0,0,1,1,0,0,0]
abbrev p39_50:=cd39 [1,1,0,1,0,0,1,1,0,0,1,1,0,0,1,1,0,0,1]
abbrev td49:List Item:=[.code (cd39 [1,1,1])]
abbrev td50:List Item:=.inBlock 0::td49
abbrev td51:List Item:=.inLoop (cd39 [1,1,0,1,0,0])::td50
abbrev td52:List Item:=.code (cd39 [1,1,0,1,0,0])::td51
abbrev td53:List Item:=[.code (cd39 [1,1,1,1,1])]
abbrev td54:List Item:=[.code (cd39 [1,1,1,1,1,1])]
abbrev td55:List Item:=.inBlock 4::td54
abbrev td56:List Item:=.inLoop (cd39 [1,1,1,1,1,0,0,0])::td55
abbrev td57:List Item:=.code (cd39 [1,1,1,1,1,0,0,0])::td56
abbrev td58:List Item:=.inBlock 5::td56
abbrev td59:List Item:=.inBlock 6::td58
abbrev td60:List Item:=.inLoop p39_26::td59
abbrev td61:List Item:=.code p39_26::td60
abbrev td62:List Item:=.code (cd39 [1,1,1,1,1,0,0,0,1,0,1,1,1,1,0,0,1,1,1])::td60
abbrev td63:List Item:=.inBlock 7::td62
abbrev td64:List Item:=.code (cd39 [1,1,0,1,0,0,1,1,1])::td51
abbrev td65:List Item:=.inBlock 1::td64
abbrev td66:List Item:=.inBlock 2::td65
abbrev td67:List Item:=.inLoop p39_46::td66
abbrev td68:List Item:=.code p39_46::td67
abbrev td69:List Item:=.code (cd39 [1,1,0,1,0,0,1,1,0,0,1,1,0,0,1,1,1])::td67
abbrev td70:List Item:=.inBlock 3::td69
def explore_graph__ordered.l2 (a0_1m : List (ByteArray × (List explore_edge))) (t67 t132 : List ByteArray) (t136 : Int) (t137 : List (ByteArray × Int)) : Option ((List ByteArray) × (List (ByteArray × Int))) :=
  (if (decide (t136 < (((mget a0_1m (gt t67 (IntKind.i64.wrap ((t67.length : Int) - 1)))).getD []).length : Int))) = true then (if 0 ≤ t136 ∧ t136 < (((mget a0_1m (gt t67 (IntKind.i64.wrap ((t67.length : Int) - 1)))).getD []).length : Int) then (if (((mget (mput t137 ((gt ((mget a0_1m (gt t67 (IntKind.i64.wrap ((t67.length : Int) - 1)))).getD []) t136).to) (IntKind.i64.wrap (((mget t137 ((gt ((mget a0_1m (gt t67 (IntKind.i64.wrap ((t67.length : Int) - 1)))).getD []) t136).to)).getD (0 : Int)) - 1))) ((gt ((mget a0_1m (gt t67 (IntKind.i64.wrap ((t67.length : Int) - 1)))).getD []) t136).to)).getD (0 : Int)) == 0) = true then (if (t132.length + ([(gt ((mget a0_1m (gt t67 (IntKind.i64.wrap ((t67.length : Int) - 1)))).getD []) t136).to] : List ByteArray).length) * 16 ≤ 140737488355328 then (explore_graph__ordered.l2 a0_1m t67 (t132 ++ ([(gt ((mget a0_1m (gt t67 (IntKind.i64.wrap ((t67.length : Int) - 1)))).getD []) t136).to] : List ByteArray)) (IntKind.i64.wrap (t136 + 1)) (mdel (mput t137 ((gt ((mget a0_1m (gt t67 (IntKind.i64.wrap ((t67.length : Int) - 1)))).getD []) t136).to) (IntKind.i64.wrap (((mget t137 ((gt ((mget a0_1m (gt t67 (IntKind.i64.wrap ((t67.length : Int) - 1)))).getD []) t136).to)).getD (0 : Int)) - 1))) ((gt ((mget a0_1m (gt t67 (IntKind.i64.wrap ((t67.length : Int) - 1)))).getD []) t136).to))) else none) else (explore_graph__ordered.l2 a0_1m t67 (id t132) (IntKind.i64.wrap (t136 + 1)) (mput t137 ((gt ((mget a0_1m (gt t67 (IntKind.i64.wrap ((t67.length : Int) - 1)))).getD []) t136).to) (IntKind.i64.wrap (((mget t137 ((gt ((mget a0_1m (gt t67 (IntKind.i64.wrap ((t67.length : Int) - 1)))).getD []) t136).to)).getD (0 : Int)) - 1))))) else none) else some ((t132,t137)))
 partial_fixpoint
def explore_graph__ordered.l1 (a0_1m : List (ByteArray × (List explore_edge))) (t63 t67 : List ByteArray) (t71 : List (ByteArray × Int)) : Option (List ByteArray) :=
  (if (decide ((t67.length : Int) > 0)) = true then (if 0 ≤ (IntKind.i64.wrap ((t67.length : Int) - 1)) ∧ (IntKind.i64.wrap ((t67.length : Int) - 1)) < (t67.length : Int) then (if 0 ≤ (IntKind.i64.wrap ((t67.length : Int) - 1)) ∧ (IntKind.i64.wrap ((t67.length : Int) - 1)) ≤ (t67.length : Int) then (if (t63.length + ([(gt t67 (IntKind.i64.wrap ((t67.length : Int) - 1)))] : List ByteArray).length) * 16 ≤ 140737488355328 then (explore_graph__ordered.l2 a0_1m t67 ((t67.take ((IntKind.i64.wrap ((t67.length : Int) - 1)).toNat)).drop 0) 0 t71 >>= (fun (t122,t126) => (explore_graph__ordered.l1 a0_1m (t63 ++ ([(gt t67 (IntKind.i64.wrap ((t67.length : Int) - 1)))] : List ByteArray)) t122 t126))) else none) else none) else none) else some (t63))
 partial_fixpoint
def explore_graph__ordered.l3 (y9 : List ByteArray) (a0_1m : List (ByteArray × (List explore_edge))) (t249 t284 : Int) (t285 : List (ByteArray × Int)) : Option (List (ByteArray × Int)) :=
  (if (decide (t284 < (((mget a0_1m (gt y9 t249)).getD []).length : Int))) = true then (if 0 ≤ t284 ∧ t284 < (((mget a0_1m (gt y9 t249)).getD []).length : Int) then (explore_graph__ordered.l3 y9 a0_1m t249 (IntKind.i64.wrap (t284 + 1)) (mput t285 ((gt ((mget a0_1m (gt y9 t249)).getD []) t284).to) (IntKind.i64.wrap (((mget t285 ((gt ((mget a0_1m (gt y9 t249)).getD []) t284).to)).getD (0 : Int)) + 1)))) else none) else some (t285))
 partial_fixpoint
def explore_graph__ordered.l0 (y9 : List ByteArray) (a0_1m : List (ByteArray × (List explore_edge))) (t249 : Int) (t250 : List (ByteArray × Int)) : Option (List (ByteArray × Int)) :=
  (if (decide (t249 < (y9.length : Int))) = true then (if 0 ≤ t249 ∧ t249 < (y9.length : Int) then (explore_graph__ordered.l3 y9 a0_1m t249 0 t250 >>= (fun t278 => (explore_graph__ordered.l0 y9 a0_1m (IntKind.i64.wrap (t249 + 1)) t278))) else none) else some (t250))
 partial_fixpoint
def explore_graph__ordered.f (y9 : List ByteArray) (a0_1m : List (ByteArray × (List explore_edge))) : Option ((List ByteArray) × Bool) :=
  (explore_graph__ordered.l0 y9 a0_1m 0 ([] : List (ByteArray × Int)) >>= (fun t13 => (if 0 ≤ (0 : Int) ∧ (0 : Int) < (y9.length : Int) then (((if (((mget t13 (gt y9 (0 : Int))).getD (0 : Int)) == 0) = true then (if 0 ≤ (0 : Int) ∧ (0 : Int) < (y9.length : Int) then (if (([] : List ByteArray).length + ([(gt y9 (0 : Int))] : List ByteArray).length) * 16 ≤ 140737488355328 then some ((([] : List ByteArray) ++ ([(gt y9 (0 : Int))] : List ByteArray))) else none) else none) else some ([])) : Option (List ByteArray)) >>= (fun t28 => (explore_graph__ordered.l1 a0_1m [] t28 t13 >>= (fun t40 => (if ((t40.length : Int) == (y9.length : Int)) = true then some ((t40,true)) else some ((t40,false))))))) else none)))
theorem explore_graph__ordered.ok (y9 : List ByteArray) (a0_1m : List (ByteArray × (List explore_edge))) (y0 : Option Addr) (y1 : Nat) (y25 : Option Nat) (y26 : List (ByteArray × Hh × List explore_edge)) (y27 : Option Nat) (hS0 : St w0 Z (xmo y25 (y26.map (kv Value.string eVH))::fs) w) (y6 : SlZ (flat encS) 1 Z y0 y1 y9) (y28 : MZ enc_explore_edge 4 Z y26 a0_1m) {q0 : List ByteArray} {q1 : Bool} (hp0 : explore_graph__ordered.f y9 a0_1m = some (q0,q1)) :
    Calls Try.prog 39 #[.agg #[.slice y0 y9.length y1,.map y25,.map y27]] w (fun e w' => ∃ (QA0 : Option Addr) (Qc0 : Nat),e = .returned (.tuple #[.slice QA0 q0.length Qc0,.bool q1]) ∧ St w0 Z (xrow QA0 Qc0 9 1 (q0.flatMap encS)::xmo y25 (y26.map (kv Value.string eVH))::fs) w'):=by
  refine calls_abs ?_; intro R hR
  unfold explore_graph__ordered.f at hp0
  refine calls_of_runs (fn:=Try.f39) (c:=cd39 []) Try.func39 (by kernel_rfl) (al:=[.agg #[.slice y0 y9.length y1,.map y25,.map y27]]) rfl (n:=104) rfl ?_
  refine sR 2 [.inRegion (opsOf (cd39 [0])) [0,1,2],.code (cd39 [1])] ?_
  refine r_box (c:=(cd39 [0])) (i:=0) (d:=(some 1)) (ty:=0) (x:=(.tmp 0)) (v:=.agg #[.slice y0 y9.length y1,.map y25,.map y27]) (t:=109) (cs:=[.slice y0 y9.length y1,.map y25,.map y27]) hS0 (by kernel_rfl) (by kernel_rfl) (by kernel_rfl) (by kernel_rfl) ?_
  intro b1 w2 hS3
  refine sR 5 [.inRegion (opsOf (cd39 [1,0])) [0,1],.code (cd39 [1,1])] ?_
  refine r_makeMap (c:=(cd39 [1,0])) (i:=0) (d:=(some 14)) (ty:=41) (t:=41) hS3 (by kernel_rfl) (by kernel_rfl) ?_
  intro b5 w6 hS7
  have hS9 : St w0 Z (xmap b5 (([] : List (ByteArray × Int)).map (kv Value.string (Value.int .i64)))::xblk b1 109 ([.slice y0 y9.length y1,.map y25,.map y27])::xmo y25 (y26.map (kv Value.string eVH))::fs) w6:=hS7
  refine sR 6 (.inRegion (opsOf (cd39 [1,1,0,0])) [1,2,3]::.code (cd39 [1,1,0,1])::td49) ?_
  refine rL1 36 (.tmp 15) 0 (hS9.blk 1 rfl) ?_
  refine sR 5 td52 ?_
  obtain ⟨v10,hv11,hp12⟩:=bind_some' hp0
  have J16 : ∀ (t13 : List (ByteArray × Int)) (he18 : t13 = v10) (l17 : List Value) (w14 : World) (hS15 : St w0 Z (xblk b1 109 ([.slice y0 y9.length y1,.map y25,.map y27])::xmo y25 (y26.map (kv Value.string eVH))::xmap b5 (t13.map (kv Value.string (Value.int .i64)))::fs) w14),Runs Try.prog (fx 39) td49 (fill (mk 105 [(1,.pointer (some ⟨b1,0,none⟩)),(4,.map (some b5))]) l17) w14 R:=by
   intro t13 he18 l17 w14 hS15
   subst he18
   try dsimp only at hp12
   refine sR 10 (iR p39_8 2 5::.code (cd39 [1,1,1,1,0,1])::td53) ?_
   refine rL1 36 (.tmp 39) 0 (hS15.blk 0 rfl) ?_
   obtain ⟨g19,hp20⟩:=ite_some hp12
   obtain ⟨b21,p22,hA23,hc24⟩:=y6.atF g19.1 g19.2
   refine r_indexAddr (c:=p39_8) (i:=3) (d:=(some 41)) (ty:=0) (t:=36) (e:=9) (n:=y9.length) (cp:=y1) (sz:=1) (kk:=.i64) (x:=(.tmp 40)) (y:=(.const (.int .i64 0))) (b:=b21) (o':=p22) (j:=(0 : Int)) (by kernel_rfl) (by kernel_rfl) (slv (by kernel_rfl) hA23) (by kernel_rfl) (by kernel_rfl) (by kernel_rfl) g19.1 g19.2 ?_
   refine rL1 9 (.tmp 41) 0 (hc24.cells hS15) ?_
   refine rV (.lookup 41 (.tmp 38) (.tmp 42) false) (.int .i64 ((mget t13 (gt y9 (0 : Int))).getD (0 : Int))) (fun o ho _ => x_lookup1 (eK:=Value.string) (eV:=(Value.int .i64)) (dk:=.string) (b:=b5) (t:=41) (kt:=9) (et:=3) (m:=t13) (kk:=(gt y9 (0 : Int))) (z:=(0 : Int)) (hS15.at 2 rfl) key_str (by kernel_rfl) (by kernel_rfl) (by kernel_rfl) (by kernel_rfl) (by kernel_rfl) ho) ?_
   obtain ⟨v25,hv26,hp27⟩:=bind_some' hp20
   have J34 : ∀ (t28 : List ByteArray) (he36 : t28 = v25) (l35 : List Value) (A29 : Option Addr) (c30 : Nat) (w32 : World) (hS33 : St w0 Z (xblk b1 109 ([.slice y0 y9.length y1,.map y25,.map y27])::xmo y25 (y26.map (kv Value.string eVH))::xmap b5 (t13.map (kv Value.string (Value.int .i64)))::xrow A29 c30 9 1 (t28.flatMap encS)::fs) w32),Runs Try.prog (fx 39) td53 (fill (mk 105 [(1,.pointer (some ⟨b1,0,none⟩)),(4,.map (some b5)),(9,.slice none 0 0),(10,.slice A29 t28.length c30)]) l35) w32 R:=by
    intro t28 he36 l35 A29 c30 w32 hS33
    subst he36
    try dsimp only at hp27
    refine sR 3 td57 ?_
    obtain ⟨v37,hv38,hp39⟩:=bind_some' hp27
    have J46 : ∀ (t40 : List ByteArray) (he48 : t40 = v37) (l47 : List Value) (A41 : Option Addr) (c42 : Nat) (w44 : World) (hS45 : St w0 Z (xblk b1 109 ([.slice y0 y9.length y1,.map y25,.map y27])::xmo y25 (y26.map (kv Value.string eVH))::xrow A41 c42 9 1 (t40.flatMap encS)::fs) w44),Runs Try.prog (fx 39) td54 (fill (mk 105 [(1,.pointer (some ⟨b1,0,none⟩)),(9,.slice A41 t40.length c42)]) l47) w44 R:=by
     intro t40 he48 l47 A41 c42 w44 hS45
     subst he48
     try dsimp only at hp39
     refine sR 1 [.code (cd39 [1,1,1,1,1,1,0]),.code (cd39 [1,1,1,1,1,1,1])] ?_
     refine r_quiet hS45 (c:=(cd39 [1,1,1,1,1,1,0])) (id:=26) (by kernel_rfl) (by kernel_rfl) (by kernel_rfl) (is:=[0,1,2,3,4,5,6,7,8]) (by kernel_rfl) ?_
     refine qR 4 (rg 4 5) ?_
     refine qL1 36 (.tmp 101) 0 (fun w hC => (hC.blk 0 rfl)) ?_
     refine qI 2 [7,8] 104 hp39 (fun hp51 => ?_) fun hp57 => ?_
     ·refine qR 2 [] ?_
      refine Qs.nil ?_
      intro w52 hS53
      have hS54:=hS53.drop
      have hS55:=hS54.pick1
      refine rR (.tuple #[.slice A41 t40.length c42,.bool true]) Try.func39 ?_
      cases Option.some.inj hp51
      exact hR _ _ ⟨A41,c42,rfl,hS55⟩
     refine qR 2 [] ?_
     refine Qs.nil ?_
     intro w58 hS59
     have hS60:=hS59.drop
     have hS61:=hS60.pick1
     refine rR (.tuple #[.slice A41 t40.length c42,.bool false]) Try.func39 ?_
     cases Option.some.inj hp57
     exact hR _ _ ⟨A41,c42,rfl,hS61⟩
    have L80 : ∀ (t63 t67 : List ByteArray) (t71 : List (ByteArray × Int)) (e75 : (List ByteArray)),explore_graph__ordered.l1 a0_1m t63 t67 t71 = some e75 → e75 = v37 → ∀ (l74 : List Value) (A64 : Option Addr) (c65 : Nat) (A68 : Option Addr) (c69 : Nat) (w72 : World) (hS73 : St w0 Z (xblk b1 109 ([.slice y0 y9.length y1,.map y25,.map y27])::xmo y25 (y26.map (kv Value.string eVH))::xmap b5 (t71.map (kv Value.string (Value.int .i64)))::xrow A64 c65 9 1 (t63.flatMap encS)::xrow A68 c69 9 1 (t67.flatMap encS)::fs) w72),Runs Try.prog (fx 39) td57 (fill (mk 105 [(1,.pointer (some ⟨b1,0,none⟩)),(4,.map (some b5)),(9,.slice A64 t63.length c65),(10,.slice A68 t67.length c69)]) l74) w72 R:=by
     refine explore_graph__ordered.l1.partial_correctness a0_1m (fun t63 t67 t71 e75 => e75 = v37 → ∀ (l74 : List Value) (A64 : Option Addr) (c65 : Nat) (A68 : Option Addr) (c69 : Nat) (w72 : World) (hS73 : St w0 Z (xblk b1 109 ([.slice y0 y9.length y1,.map y25,.map y27])::xmo y25 (y26.map (kv Value.string eVH))::xmap b5 (t71.map (kv Value.string (Value.int .i64)))::xrow A64 c65 9 1 (t63.flatMap encS)::xrow A68 c69 9 1 (t67.flatMap encS)::fs) w72),Runs Try.prog (fx 39) td57 (fill (mk 105 [(1,.pointer (some ⟨b1,0,none⟩)),(4,.map (some b5)),(9,.slice A64 t63.length c65),(10,.slice A68 t67.length c69)]) l74) w72 R) ?_
     intro rec79 ih78 t63 t67 t71 e75 hb77 he76 l74 A64 c65 A68 c69 w72 hS73
     refine sI 6 (.inRegion (opsOf (cd39 [1,1,1,1,1,0,0,0,0,0])) []::.code (cd39 [1,1,1,1,1,0,0,0,0,1])::.code (cd39 [1,1,1,1,1,0,0,0,1])::td56) 54 hb77 (fun hp83 => ?_) fun hp204 => ?_
     ·refine sR 10 (.inRegion (opsOf p39_18) [4,5,6]::.code (cd39 [1,1,1,1,1,0,0,0,1,0,1])::td58) ?_
      obtain ⟨g84,hp85⟩:=ite_some hp83
      obtain ⟨b86,p87,hA88,-⟩:=(hS73.row 4 rfl).at_ len_encS (by omega) g84.1 g84.2
      refine r_indexAddr (c:=p39_18) (i:=4) (d:=(some 59)) (ty:=0) (t:=36) (e:=9) (n:=t67.length) (cp:=c69) (sz:=1) (kk:=.i64) (x:=(.tmp 55)) (y:=(.tmp 58)) (b:=b86) (o':=p87) (j:=(IntKind.i64.wrap ((t67.length : Int) - 1))) (by kernel_rfl) (by kernel_rfl) (slv (by kernel_rfl) hA88) (by kernel_rfl) (by kernel_rfl) (by kernel_rfl) g84.1 g84.2 ?_
      refine rL1 9 (.tmp 59) 0 ((hS73.row 4 rfl).at2 hA88 len_encS (by omega) g84.1 g84.2) ?_
      refine sR 8 (.inRegion (opsOf (cd39 [1,1,1,1,1,0,0,0,1,0,1,0])) [4,5]::.code (cd39 [1,1,1,1,1,0,0,0,1,0,1,1])::td58) ?_
      obtain ⟨g90,hp91⟩:=ite_some hp85
      have hS96:=hS73.pick4
      have hcap98:=(hS96.row 0 rfl).cap len_encS (by omega)
      obtain ⟨A92,c93,hr94,hS97⟩:=hS96.cutrow len_encS (by omega) (0) ((IntKind.i64.wrap ((t67.length : Int) - 1)).toNat) (by omega) (by omega)
      refine rV (.slice 36 (.tmp 61) none (some (.tmp 64)) none) (.slice A92 ((t67.take ((IntKind.i64.wrap ((t67.length : Int) - 1)).toNat)).drop 0).length c93) (fun o ho _ => x_cutSl_ns (e:=9) (sz:=1) (A:=A68) (n:=t67.length) (c:=c69) (k:=.i64) (by kernel_rfl) (by kernel_rfl) (by kernel_rfl) (by kernel_rfl) g90 hcap98 hr94 ho) ?_
      refine sR 6 (.inRegion (opsOf p39_22) [2,3,4]::.code (cd39 [1,1,1,1,1,0,0,0,1,0,1,1,1])::td58) ?_
      refine r_lit (c:=p39_22) (i:=2) (d:=(some 68)) (ty:=36) (t:=36) (e:=9) (sz:=1) (n:=1) (parts:=#[(0,(.tmp 67))]) (vs:=[(0,.string (gt t67 (IntKind.i64.wrap ((t67.length : Int) - 1))))]) (z:=zeroOf Try.prog 9) (cs':=([(gt t67 (IntKind.i64.wrap ((t67.length : Int) - 1)))] : List ByteArray).flatMap encS) hS97 (by kernel_rfl) (by kernel_rfl) (by kernel_rfl) (by kernel_rfl) (by kernel_rfl) (by decide) (by decide) (by kernel_rfl) rfl (Parts.cons (c:=[.string (gt t67 (IntKind.i64.wrap ((t67.length : Int) - 1)))]) (by kernel_rfl) rfl Parts.nil) rfl ?_
      intro b100 w101 hS102
      have hS103:=hS102.pick5
      obtain ⟨g104,hp105⟩:=ite_some hp91
      refine r_append (c:=p39_22) (i:=3) (d:=(some 69)) (ty:=36) (enc:=encS) (e:=9) (u:=9) (t:=36) (t2:=36) (sz:=1) (cp:=c65) (A:=A64) (bytes:=16) (xs:=t63) (ys:=([(gt t67 (IntKind.i64.wrap ((t67.length : Int) - 1)))] : List ByteArray)) (s:=(.tmp 66)) (x:=(.tmp 68)) (xv:=.slice (some ⟨b100,0,none⟩) ([(gt t67 (IntKind.i64.wrap ((t67.length : Int) - 1)))] : List ByteArray).length 1) (info:=infoOf Try.prog 9) (z:=zeroOf Try.prog 9) (ycs:=([(gt t67 (IntKind.i64.wrap ((t67.length : Int) - 1)))] : List ByteArray).flatMap encS) hS103 (by kernel_rfl) (by kernel_rfl) (by kernel_rfl) (by kernel_rfl) (by kernel_rfl) (.inl (by kernel_rfl)) (by kernel_rfl) (by kernel_rfl) (by kernel_rfl) (by kernel_rfl) (by kernel_rfl) (by omega) len_encS one_encS (src_row (hS103.row 1 rfl) (by omega) len_encS) rfl g104 (by omega) ?_
      intro A106 c107 w108 hS109
      refine sR 5 (iR p39_24 1 5::.code p39_25::td58) ?_
      refine rL1 107 (.tmp 70) 1 (hS109.blk 3 rfl) ?_
      refine sR 1 (.inRegion (opsOf p39_24) [3,4,5]::.code p39_25::td58) ?_
      obtain ⟨A111,c112,hv113,hq114,hs115⟩:=MZ.get y28 (gt t67 (IntKind.i64.wrap ((t67.length : Int) - 1)))
      refine rV (.lookup 107 (.tmp 71) (.tmp 72) false) (.slice A111 ((mget a0_1m (gt t67 (IntKind.i64.wrap ((t67.length : Int) - 1)))).getD []).length c112) (fun o ho _ => x_lookupZO1 (eK:=Value.string) (dk:=.string) (b:=y25) (t:=107) (kt:=9) (et:=120) (mh:=y26) (kk:=(gt t67 (IntKind.i64.wrap ((t67.length : Int) - 1)))) (hS109.at 4 rfl) hv113 key_str (by kernel_rfl) (by kernel_rfl) (by kernel_rfl) (by kernel_rfl) (by kernel_rfl) ho) ?_
      refine sR 5 td61 ?_
      have hS117:=hS109.pick1
      have hS118:=hS117.drop
      obtain ⟨v119,hv120,hp121⟩:=bind_some' hp105
      have J129 : ∀ (t122 : List ByteArray) (t126 : List (ByteArray × Int)) (he131 : (t122,t126) = v119) (l130 : List Value) (A123 : Option Addr) (c124 : Nat) (w127 : World) (hS128 : St w0 Z (xblk b1 109 ([.slice y0 y9.length y1,.map y25,.map y27])::xmo y25 (y26.map (kv Value.string eVH))::xmap b5 (t126.map (kv Value.string (Value.int .i64)))::xrow A106 c107 9 1 ((t63 ++ ([(gt t67 (IntKind.i64.wrap ((t67.length : Int) - 1)))] : List ByteArray)).flatMap encS)::xrow A123 c124 9 1 (t122.flatMap encS)::fs) w127),Runs Try.prog (fx 39) td58 (fill (mk 105 [(1,.pointer (some ⟨b1,0,none⟩)),(4,.map (some b5)),(9,.slice A106 (t63 ++ ([(gt t67 (IntKind.i64.wrap ((t67.length : Int) - 1)))] : List ByteArray)).length c107),(10,.slice A123 t122.length c124)]) l130) w127 R:=by
       intro t122 t126 he131 l130 A123 c124 w127 hS128
       subst he131
       try dsimp only at hp121
       refine sR 1 td56 ?_
       refine sR 1 td57 ?_
       exact rF _ (ih78 (t63 ++ ([(gt t67 (IntKind.i64.wrap ((t67.length : Int) - 1)))] : List ByteArray)) t122 t126 _ hp121 he76 _ A106 c107 A123 c124 _ hS128)
      have L146 : ∀ (t132 : List ByteArray) (t136 : Int) (t137 : List (ByteArray × Int)) (e141 : ((List ByteArray) × (List (ByteArray × Int)))),explore_graph__ordered.l2 a0_1m t67 t132 t136 t137 = some e141 → e141 = v119 → ∀ (l140 : List Value) (A133 : Option Addr) (c134 : Nat) (w138 : World) (hS139 : St w0 Z (xblk b1 109 ([.slice y0 y9.length y1,.map y25,.map y27])::xmo y25 (y26.map (kv Value.string eVH))::xmap b5 (t137.map (kv Value.string (Value.int .i64)))::xrow A106 c107 9 1 ((t63 ++ ([(gt t67 (IntKind.i64.wrap ((t67.length : Int) - 1)))] : List ByteArray)).flatMap encS)::xrow A133 c134 9 1 (t132.flatMap encS)::fs) w138),Runs Try.prog (fx 39) td61 (fill (mk 105 [(1,.pointer (some ⟨b1,0,none⟩)),(4,.map (some b5)),(9,.slice A106 (t63 ++ ([(gt t67 (IntKind.i64.wrap ((t67.length : Int) - 1)))] : List ByteArray)).length c107),(10,.slice A133 t132.length c134),(73,.slice A111 ((mget a0_1m (gt t67 (IntKind.i64.wrap ((t67.length : Int) - 1)))).getD []).length c112),(74,.int .i64 (((mget a0_1m (gt t67 (IntKind.i64.wrap ((t67.length : Int) - 1)))).getD []).length : Int)),(75,.int .i64 t136)]) l140) w138 R:=by
       refine explore_graph__ordered.l2.partial_correctness a0_1m t67 (fun t132 t136 t137 e141 => e141 = v119 → ∀ (l140 : List Value) (A133 : Option Addr) (c134 : Nat) (w138 : World) (hS139 : St w0 Z (xblk b1 109 ([.slice y0 y9.length y1,.map y25,.map y27])::xmo y25 (y26.map (kv Value.string eVH))::xmap b5 (t137.map (kv Value.string (Value.int .i64)))::xrow A106 c107 9 1 ((t63 ++ ([(gt t67 (IntKind.i64.wrap ((t67.length : Int) - 1)))] : List ByteArray)).flatMap encS)::xrow A133 c134 9 1 (t132.flatMap encS)::fs) w138),Runs Try.prog (fx 39) td61 (fill (mk 105 [(1,.pointer (some ⟨b1,0,none⟩)),(4,.map (some b5)),(9,.slice A106 (t63 ++ ([(gt t67 (IntKind.i64.wrap ((t67.length : Int) - 1)))] : List ByteArray)).length c107),(10,.slice A133 t132.length c134),(73,.slice A111 ((mget a0_1m (gt t67 (IntKind.i64.wrap ((t67.length : Int) - 1)))).getD []).length c112),(74,.int .i64 (((mget a0_1m (gt t67 (IntKind.i64.wrap ((t67.length : Int) - 1)))).getD []).length : Int)),(75,.int .i64 t136)]) l140) w138 R) ?_
       intro rec145 ih144 t132 t136 t137 e141 hb143 he142 l140 A133 c134 w138 hS139
       refine sI 3 (.inRegion (opsOf (cd39 [1,1,1,1,1,0,0,0,1,0,1,1,1,1,0,0,0])) []::.code (cd39 [1,1,1,1,1,0,0,0,1,0,1,1,1,1,0,0,1])::td60) 76 hb143 (fun hp149 => ?_) fun hp198 => ?_
       ·refine sR 8 (iR p39_29 0 4::.code (cd39 [1,1,1,1,1,0,0,0,1,0,1,1,1,1,0,0,1,1,0,0,1])::td63) ?_
        obtain ⟨g150,hp151⟩:=ite_some hp149
        obtain ⟨b152,p153,hA154,hc155⟩:=hs115.atF g150.1 g150.2
        refine r_indexAddr (c:=p39_29) (i:=0) (d:=(some 77)) (ty:=0) (t:=120) (e:=122) (n:=((mget a0_1m (gt t67 (IntKind.i64.wrap ((t67.length : Int) - 1)))).getD []).length) (cp:=c112) (sz:=4) (kk:=.i64) (x:=(.tmp 73)) (y:=(.tmp 75)) (b:=b152) (o':=p153) (j:=t136) (by kernel_rfl) (by kernel_rfl) (slv (by kernel_rfl) hA154) (by kernel_rfl) (by kernel_rfl) (by kernel_rfl) g150.1 g150.2 ?_
        refine rLa 122 (.tmp 77) (hc155.cells hS139) ?_
        refine rA 122 (.agg (enc_explore_edge (⟨⟨0,0,0⟩,(⟨#[]⟩ : ByteArray)⟩ : explore_edge)).toArray) (enc_explore_edge (⟨⟨0,0,0⟩,(⟨#[]⟩ : ByteArray)⟩ : explore_edge)) hS139 ?_
        intro b156 w157 hS158
        refine rSA 122 (.tmp 13) (.tmp 78) (enc_explore_edge (gt ((mget a0_1m (gt t67 (IntKind.i64.wrap ((t67.length : Int) - 1)))).getD []) t136)) hS158 (one_explore_edge _) ?_
        intro w160 hS161
        refine sR 5 (iR p39_32 2 4::.code p39_33::td63) ?_
        refine rL1 9 (.tmp 80) 3 (hS161.blk 0 rfl) ?_
        refine rV (.lookup 41 (.tmp 79) (.tmp 81) false) (.int .i64 ((mget t137 ((gt ((mget a0_1m (gt t67 (IntKind.i64.wrap ((t67.length : Int) - 1)))).getD []) t136).to)).getD (0 : Int))) (fun o ho _ => x_lookup1 (eK:=Value.string) (eV:=(Value.int .i64)) (dk:=.string) (b:=b5) (t:=41) (kt:=9) (et:=3) (m:=t137) (kk:=((gt ((mget a0_1m (gt t67 (IntKind.i64.wrap ((t67.length : Int) - 1)))).getD []) t136).to)) (z:=(0 : Int)) (hS161.at 3 rfl) key_str (by kernel_rfl) (by kernel_rfl) (by kernel_rfl) (by kernel_rfl) (by kernel_rfl) ho) ?_
        refine sR 1 (.inRegion (opsOf p39_32) [5]::.code p39_33::td63) ?_
        have hS162:=hS161.pick3
        refine r_mapUpdate (c:=p39_32) (i:=5) (d:=none) (ty:=0) (eK:=Value.string) (eV:=(Value.int .i64)) (dk:=.string) (b:=b5) (t:=41) (kt:=9) (et:=3) (x:=(.tmp 79)) (y:=(.tmp 81)) (z:=(.tmp 83)) (m:=t137) (kk:=((gt ((mget a0_1m (gt t67 (IntKind.i64.wrap ((t67.length : Int) - 1)))).getD []) t136).to)) (v:=(IntKind.i64.wrap (((mget t137 ((gt ((mget a0_1m (gt t67 (IntKind.i64.wrap ((t67.length : Int) - 1)))).getD []) t136).to)).getD (0 : Int)) - 1))) hS162 (by kernel_rfl) (by kernel_rfl) key_str (by kernel_rfl) (by kernel_rfl) (by kernel_rfl) (by kernel_rfl) (by kernel_rfl) ?_
        intro w163 hS164
        refine sR 5 (.inRegion (opsOf p39_34) [2,3,4]::.code p39_35::td63) ?_
        refine rL1 9 (.tmp 85) 3 (hS164.blk 1 rfl) ?_
        refine rV (.lookup 41 (.tmp 84) (.tmp 86) false) (.int .i64 ((mget (mput t137 ((gt ((mget a0_1m (gt t67 (IntKind.i64.wrap ((t67.length : Int) - 1)))).getD []) t136).to) (IntKind.i64.wrap (((mget t137 ((gt ((mget a0_1m (gt t67 (IntKind.i64.wrap ((t67.length : Int) - 1)))).getD []) t136).to)).getD (0 : Int)) - 1))) ((gt ((mget a0_1m (gt t67 (IntKind.i64.wrap ((t67.length : Int) - 1)))).getD []) t136).to)).getD (0 : Int))) (fun o ho _ => x_lookup1 (eK:=Value.string) (eV:=(Value.int .i64)) (dk:=.string) (b:=b5) (t:=41) (kt:=9) (et:=3) (m:=(mput t137 ((gt ((mget a0_1m (gt t67 (IntKind.i64.wrap ((t67.length : Int) - 1)))).getD []) t136).to) (IntKind.i64.wrap (((mget t137 ((gt ((mget a0_1m (gt t67 (IntKind.i64.wrap ((t67.length : Int) - 1)))).getD []) t136).to)).getD (0 : Int)) - 1)))) (kk:=((gt ((mget a0_1m (gt t67 (IntKind.i64.wrap ((t67.length : Int) - 1)))).getD []) t136).to)) (z:=(0 : Int)) (hS164.at 0 rfl) key_str (by kernel_rfl) (by kernel_rfl) (by kernel_rfl) (by kernel_rfl) (by kernel_rfl) ho) ?_
        refine sI 1 (.inRegion (opsOf p39_34) []::.code p39_35::td63) 88 hp151 (fun hp167 => ?_) fun hp190 => ?_
        ·refine sR 6 (.inRegion (opsOf p39_36) [2,3]::.code p39_37::td63) ?_
         refine rL1 9 (.tmp 90) 3 (hS164.blk 1 rfl) ?_
         refine r_delete (c:=p39_36) (i:=3) (d:=none) (ty:=0) (eK:=Value.string) (eV:=(Value.int .i64)) (dk:=.string) (b:=b5) (t:=41) (kt:=9) (et:=3) (u:=9) (x:=(.tmp 89)) (y:=(.tmp 91)) (m:=(mput t137 ((gt ((mget a0_1m (gt t67 (IntKind.i64.wrap ((t67.length : Int) - 1)))).getD []) t136).to) (IntKind.i64.wrap (((mget t137 ((gt ((mget a0_1m (gt t67 (IntKind.i64.wrap ((t67.length : Int) - 1)))).getD []) t136).to)).getD (0 : Int)) - 1)))) (kk:=((gt ((mget a0_1m (gt t67 (IntKind.i64.wrap ((t67.length : Int) - 1)))).getD []) t136).to)) hS164 (by kernel_rfl) (by kernel_rfl) key_str (by kernel_rfl) (by kernel_rfl) (by kernel_rfl) (by kernel_rfl) ?_
         intro w168 hS169
         refine sR 4 (iR p39_37 2 4::td63) ?_
         refine rL1 9 (.tmp 93) 3 (hS169.blk 1 rfl) ?_
         refine r_lit (c:=p39_37) (i:=3) (d:=(some 95)) (ty:=36) (t:=36) (e:=9) (sz:=1) (n:=1) (parts:=#[(0,(.tmp 94))]) (vs:=[(0,.string ((gt ((mget a0_1m (gt t67 (IntKind.i64.wrap ((t67.length : Int) - 1)))).getD []) t136).to))]) (z:=zeroOf Try.prog 9) (cs':=([(gt ((mget a0_1m (gt t67 (IntKind.i64.wrap ((t67.length : Int) - 1)))).getD []) t136).to] : List ByteArray).flatMap encS) hS169 (by kernel_rfl) (by kernel_rfl) (by kernel_rfl) (by kernel_rfl) (by kernel_rfl) (by decide) (by decide) (by kernel_rfl) rfl (Parts.cons (c:=[.string ((gt ((mget a0_1m (gt t67 (IntKind.i64.wrap ((t67.length : Int) - 1)))).getD []) t136).to)]) (by kernel_rfl) rfl Parts.nil) rfl ?_
         intro b171 w172 hS173
         have hS174:=hS173.pick6
         obtain ⟨g175,hp176⟩:=ite_some hp167
         refine r_append (c:=p39_37) (i:=4) (d:=(some 96)) (ty:=36) (enc:=encS) (e:=9) (u:=9) (t:=36) (t2:=36) (sz:=1) (cp:=c134) (A:=A133) (bytes:=16) (xs:=t132) (ys:=([(gt ((mget a0_1m (gt t67 (IntKind.i64.wrap ((t67.length : Int) - 1)))).getD []) t136).to] : List ByteArray)) (s:=(.tmp 92)) (x:=(.tmp 95)) (xv:=.slice (some ⟨b171,0,none⟩) ([(gt ((mget a0_1m (gt t67 (IntKind.i64.wrap ((t67.length : Int) - 1)))).getD []) t136).to] : List ByteArray).length 1) (info:=infoOf Try.prog 9) (z:=zeroOf Try.prog 9) (ycs:=([(gt ((mget a0_1m (gt t67 (IntKind.i64.wrap ((t67.length : Int) - 1)))).getD []) t136).to] : List ByteArray).flatMap encS) hS174 (by kernel_rfl) (by kernel_rfl) (by kernel_rfl) (by kernel_rfl) (by kernel_rfl) (.inl (by kernel_rfl)) (by kernel_rfl) (by kernel_rfl) (by kernel_rfl) (by kernel_rfl) (by kernel_rfl) (by omega) len_encS one_encS (src_row (hS174.row 1 rfl) (by omega) len_encS) rfl g175 (by omega) ?_
         intro A177 c178 w179 hS180
         refine sR 7 td60 ?_
         have hS182:=hS180.pick1
         have hS183:=hS182.drop
         have hS184:=hS183.pick2
         have hS185:=hS184.drop
         have hS186:=hS185.pick4
         have hS187:=hS186.pick2
         have hS188:=hS187.pick4
         have hS189:=hS188.pick4
         refine sR 1 td61 ?_
         exact rF _ (ih144 (t132 ++ ([(gt ((mget a0_1m (gt t67 (IntKind.i64.wrap ((t67.length : Int) - 1)))).getD []) t136).to] : List ByteArray)) (IntKind.i64.wrap (t136 + 1)) (mdel (mput t137 ((gt ((mget a0_1m (gt t67 (IntKind.i64.wrap ((t67.length : Int) - 1)))).getD []) t136).to) (IntKind.i64.wrap (((mget t137 ((gt ((mget a0_1m (gt t67 (IntKind.i64.wrap ((t67.length : Int) - 1)))).getD []) t136).to)).getD (0 : Int)) - 1))) ((gt ((mget a0_1m (gt t67 (IntKind.i64.wrap ((t67.length : Int) - 1)))).getD []) t136).to)) _ hp176 he142 _ A177 c178 _ hS189)
        refine sR 8 td60 ?_
        have hS191:=hS164.pick1
        have hS192:=hS191.drop
        have hS193:=hS192.pick4
        have hS194:=hS193.pick4
        have hS195:=hS194.pick2
        have hS196:=hS195.pick4
        have hS197:=hS196.pick4
        refine sR 1 td61 ?_
        exact rF _ (ih144 (id t132) (IntKind.i64.wrap (t136 + 1)) (mput t137 ((gt ((mget a0_1m (gt t67 (IntKind.i64.wrap ((t67.length : Int) - 1)))).getD []) t136).to) (IntKind.i64.wrap (((mget t137 ((gt ((mget a0_1m (gt t67 (IntKind.i64.wrap ((t67.length : Int) - 1)))).getD []) t136).to)).getD (0 : Int)) - 1))) _ hp190 he142 _ A133 c134 _ hS197)
       refine sR 4 td58 ?_
       exact rF _ (J129 t132 t137 ((Option.some.inj hp198).trans he142) _ A133 c134 _ hS139)
      have hS199:=hS118.pick1
      have hS200:=hS199.pick1
      have hS201:=hS200.pick4
      have hS202:=hS201.pick4
      have hS203:=hS202.pick4
      exact rF _ (L146 ((t67.take ((IntKind.i64.wrap ((t67.length : Int) - 1)).toNat)).drop 0) 0 t71 _ hv120 rfl _ A92 c93 _ hS203)
     refine sR 3 td54 ?_
     have hS205:=hS73.pick2
     have hS206:=hS205.drop
     have hS207:=hS206.pick3
     have hS208:=hS207.drop
     exact rF _ (J46 t63 ((Option.some.inj hp204).trans he76) _ A64 c65 _ hS208)
    have hS210:=hS33.nilrow none 9 1
    have hS211:=hS210.pick4
    have hS212:=hS211.pick1
    have hS213:=hS212.pick4
    have hS214:=hS213.pick4
    have hS215:=hS214.pick4
    exact rF _ (L80 [] t28 t13 _ hv38 rfl _ none 0 A29 c30 _ hS215)
   refine sI 1 (.inRegion (opsOf p39_8) []::.code (cd39 [1,1,1,1,0,1])::td53) 44 hv26 (fun hp218 => ?_) fun hp243 => ?_
   ·refine sR 5 (iR p39_38 2 6::td53) ?_
    refine rL1 36 (.tmp 46) 0 (hS15.blk 0 rfl) ?_
    obtain ⟨g219,hp220⟩:=ite_some hp218
    obtain ⟨b221,p222,hA223,hc224⟩:=y6.atF g219.1 g219.2
    refine r_indexAddr (c:=p39_38) (i:=3) (d:=(some 48)) (ty:=0) (t:=36) (e:=9) (n:=y9.length) (cp:=y1) (sz:=1) (kk:=.i64) (x:=(.tmp 47)) (y:=(.const (.int .i64 0))) (b:=b221) (o':=p222) (j:=(0 : Int)) (by kernel_rfl) (by kernel_rfl) (slv (by kernel_rfl) hA223) (by kernel_rfl) (by kernel_rfl) (by kernel_rfl) g219.1 g219.2 ?_
    refine rL1 9 (.tmp 48) 0 (hc224.cells hS15) ?_
    refine r_lit (c:=p39_38) (i:=5) (d:=(some 50)) (ty:=36) (t:=36) (e:=9) (sz:=1) (n:=1) (parts:=#[(0,(.tmp 49))]) (vs:=[(0,.string (gt y9 (0 : Int)))]) (z:=zeroOf Try.prog 9) (cs':=([(gt y9 (0 : Int))] : List ByteArray).flatMap encS) hS15 (by kernel_rfl) (by kernel_rfl) (by kernel_rfl) (by kernel_rfl) (by kernel_rfl) (by decide) (by decide) (by kernel_rfl) rfl (Parts.cons (c:=[.string (gt y9 (0 : Int))]) (by kernel_rfl) rfl Parts.nil) rfl ?_
    intro b226 w227 hS228
    have hS230:=hS228.nilrow none 9 1
    obtain ⟨g231,hp232⟩:=ite_some hp220
    refine r_append (c:=p39_38) (i:=6) (d:=(some 51)) (ty:=36) (enc:=encS) (e:=9) (u:=9) (t:=36) (t2:=36) (sz:=1) (cp:=0) (A:=none) (bytes:=16) (xs:=([] : List ByteArray)) (ys:=([(gt y9 (0 : Int))] : List ByteArray)) (s:=(.tmp 45)) (x:=(.tmp 50)) (xv:=.slice (some ⟨b226,0,none⟩) ([(gt y9 (0 : Int))] : List ByteArray).length 1) (info:=infoOf Try.prog 9) (z:=zeroOf Try.prog 9) (ycs:=([(gt y9 (0 : Int))] : List ByteArray).flatMap encS) hS230 (by kernel_rfl) (by kernel_rfl) (by kernel_rfl) (by kernel_rfl) (by kernel_rfl) (.inl (by kernel_rfl)) (by kernel_rfl) (by kernel_rfl) (by kernel_rfl) (by kernel_rfl) (by kernel_rfl) (by omega) len_encS one_encS (src_row (hS230.row 1 rfl) (by omega) len_encS) rfl g231 (by omega) ?_
    intro A233 c234 w235 hS236
    refine sR 2 td53 ?_
    have hS238:=hS236.pick1
    have hS239:=hS238.drop
    have hS240:=hS239.pick3
    have hS241:=hS240.pick3
    have hS242:=hS241.pick3
    exact rF _ (J34 (([] : List ByteArray) ++ ([(gt y9 (0 : Int))] : List ByteArray)) (Option.some.inj hp232) _ A233 c234 _ hS242)
   refine sR 3 td53 ?_
   have hS245:=hS15.nilrow none 9 1
   have hS246:=hS245.pick3
   have hS247:=hS246.pick3
   have hS248:=hS247.pick3
   exact rF _ (J34 [] (Option.some.inj hp243) _ none 0 _ hS248)
  have L259 : ∀ (t249 : Int) (t250 : List (ByteArray × Int)) (e254 : (List (ByteArray × Int))),explore_graph__ordered.l0 y9 a0_1m t249 t250 = some e254 → e254 = v10 → ∀ (l253 : List Value) (w251 : World) (hS252 : St w0 Z (xblk b1 109 ([.slice y0 y9.length y1,.map y25,.map y27])::xmo y25 (y26.map (kv Value.string eVH))::xmap b5 (t250.map (kv Value.string (Value.int .i64)))::fs) w251),Runs Try.prog (fx 39) td52 (fill (mk 105 [(1,.pointer (some ⟨b1,0,none⟩)),(4,.map (some b5)),(16,.slice y0 y9.length y1),(17,.int .i64 (y9.length : Int)),(18,.int .i64 t249)]) l253) w251 R:=by
   refine explore_graph__ordered.l0.partial_correctness y9 a0_1m (fun t249 t250 e254 => e254 = v10 → ∀ (l253 : List Value) (w251 : World) (hS252 : St w0 Z (xblk b1 109 ([.slice y0 y9.length y1,.map y25,.map y27])::xmo y25 (y26.map (kv Value.string eVH))::xmap b5 (t250.map (kv Value.string (Value.int .i64)))::fs) w251),Runs Try.prog (fx 39) td52 (fill (mk 105 [(1,.pointer (some ⟨b1,0,none⟩)),(4,.map (some b5)),(16,.slice y0 y9.length y1),(17,.int .i64 (y9.length : Int)),(18,.int .i64 t249)]) l253) w251 R) ?_
   intro rec258 ih257 t249 t250 e254 hb256 he255 l253 w251 hS252
   refine sI 3 (.inRegion (opsOf (cd39 [1,1,0,1,0,0,0])) []::.code (cd39 [1,1,0,1,0,0,1])::td51) 19 hb256 (fun hp262 => ?_) fun hp318 => ?_
   ·refine sR 8 (.inRegion (opsOf p39_41) [0,1,2]::.code (cd39 [1,1,0,1,0,0,1,1,0,0,1])::td65) ?_
    obtain ⟨g263,hp264⟩:=ite_some hp262
    obtain ⟨b265,p266,hA267,hc268⟩:=y6.atF g263.1 g263.2
    refine r_indexAddr (c:=p39_41) (i:=0) (d:=(some 20)) (ty:=0) (t:=36) (e:=9) (n:=y9.length) (cp:=y1) (sz:=1) (kk:=.i64) (x:=(.tmp 16)) (y:=(.tmp 18)) (b:=b265) (o':=p266) (j:=t249) (by kernel_rfl) (by kernel_rfl) (slv (by kernel_rfl) hA267) (by kernel_rfl) (by kernel_rfl) (by kernel_rfl) g263.1 g263.2 ?_
    refine rL1 9 (.tmp 20) 0 (hc268.cells hS252) ?_
    refine sR 5 (iR p39_44 1 5::.code p39_45::td65) ?_
    refine rL1 107 (.tmp 22) 1 (hS252.blk 0 rfl) ?_
    refine sR 1 (.inRegion (opsOf p39_44) [3,4,5]::.code p39_45::td65) ?_
    obtain ⟨A269,c270,hv271,hq272,hs273⟩:=MZ.get y28 (gt y9 t249)
    refine rV (.lookup 107 (.tmp 23) (.tmp 24) false) (.slice A269 ((mget a0_1m (gt y9 t249)).getD []).length c270) (fun o ho _ => x_lookupZO1 (eK:=Value.string) (dk:=.string) (b:=y25) (t:=107) (kt:=9) (et:=120) (mh:=y26) (kk:=(gt y9 t249)) (hS252.at 1 rfl) hv271 key_str (by kernel_rfl) (by kernel_rfl) (by kernel_rfl) (by kernel_rfl) (by kernel_rfl) ho) ?_
    refine sR 5 td68 ?_
    obtain ⟨v275,hv276,hp277⟩:=bind_some' hp264
    have J281 : ∀ (t278 : List (ByteArray × Int)) (he283 : t278 = v275) (l282 : List Value) (w279 : World) (hS280 : St w0 Z (xblk b1 109 ([.slice y0 y9.length y1,.map y25,.map y27])::xmo y25 (y26.map (kv Value.string eVH))::xmap b5 (t278.map (kv Value.string (Value.int .i64)))::fs) w279),Runs Try.prog (fx 39) td65 (fill (mk 105 [(1,.pointer (some ⟨b1,0,none⟩)),(4,.map (some b5)),(16,.slice y0 y9.length y1),(17,.int .i64 (y9.length : Int)),(18,.int .i64 t249)]) l282) w279 R:=by
     intro t278 he283 l282 w279 hS280
     subst he283
     try dsimp only at hp277
     refine sR 5 td51 ?_
     refine sR 1 td52 ?_
     exact rF _ (ih257 (IntKind.i64.wrap (t249 + 1)) t278 _ hp277 he255 _ _ hS280)
    have L294 : ∀ (t284 : Int) (t285 : List (ByteArray × Int)) (e289 : (List (ByteArray × Int))),explore_graph__ordered.l3 y9 a0_1m t249 t284 t285 = some e289 → e289 = v275 → ∀ (l288 : List Value) (w286 : World) (hS287 : St w0 Z (xblk b1 109 ([.slice y0 y9.length y1,.map y25,.map y27])::xmo y25 (y26.map (kv Value.string eVH))::xmap b5 (t285.map (kv Value.string (Value.int .i64)))::fs) w286),Runs Try.prog (fx 39) td68 (fill (mk 105 [(1,.pointer (some ⟨b1,0,none⟩)),(4,.map (some b5)),(16,.slice y0 y9.length y1),(17,.int .i64 (y9.length : Int)),(18,.int .i64 t249),(25,.slice A269 ((mget a0_1m (gt y9 t249)).getD []).length c270),(26,.int .i64 (((mget a0_1m (gt y9 t249)).getD []).length : Int)),(27,.int .i64 t284)]) l288) w286 R:=by
     refine explore_graph__ordered.l3.partial_correctness y9 a0_1m t249 (fun t284 t285 e289 => e289 = v275 → ∀ (l288 : List Value) (w286 : World) (hS287 : St w0 Z (xblk b1 109 ([.slice y0 y9.length y1,.map y25,.map y27])::xmo y25 (y26.map (kv Value.string eVH))::xmap b5 (t285.map (kv Value.string (Value.int .i64)))::fs) w286),Runs Try.prog (fx 39) td68 (fill (mk 105 [(1,.pointer (some ⟨b1,0,none⟩)),(4,.map (some b5)),(16,.slice y0 y9.length y1),(17,.int .i64 (y9.length : Int)),(18,.int .i64 t249),(25,.slice A269 ((mget a0_1m (gt y9 t249)).getD []).length c270),(26,.int .i64 (((mget a0_1m (gt y9 t249)).getD []).length : Int)),(27,.int .i64 t284)]) l288) w286 R) ?_
     intro rec293 ih292 t284 t285 e289 hb291 he290 l288 w286 hS287
     refine sI 3 (.inRegion (opsOf (cd39 [1,1,0,1,0,0,1,1,0,0,1,1,0,0,0])) []::.code (cd39 [1,1,0,1,0,0,1,1,0,0,1,1,0,0,1])::td67) 28 hb291 (fun hp297 => ?_) fun hp317 => ?_
     ·refine sR 8 (iR p39_49 0 4::.code p39_50::td70) ?_
      obtain ⟨g298,hp299⟩:=ite_some hp297
      obtain ⟨b300,p301,hA302,hc303⟩:=hs273.atF g298.1 g298.2
      refine r_indexAddr (c:=p39_49) (i:=0) (d:=(some 29)) (ty:=0) (t:=120) (e:=122) (n:=((mget a0_1m (gt y9 t249)).getD []).length) (cp:=c270) (sz:=4) (kk:=.i64) (x:=(.tmp 25)) (y:=(.tmp 27)) (b:=b300) (o':=p301) (j:=t284) (by kernel_rfl) (by kernel_rfl) (slv (by kernel_rfl) hA302) (by kernel_rfl) (by kernel_rfl) (by kernel_rfl) g298.1 g298.2 ?_
      refine rLa 122 (.tmp 29) (hc303.cells hS287) ?_
      refine rA 122 (.agg (enc_explore_edge (⟨⟨0,0,0⟩,(⟨#[]⟩ : ByteArray)⟩ : explore_edge)).toArray) (enc_explore_edge (⟨⟨0,0,0⟩,(⟨#[]⟩ : ByteArray)⟩ : explore_edge)) hS287 ?_
      intro b304 w305 hS306
      refine rSA 122 (.tmp 8) (.tmp 30) (enc_explore_edge (gt ((mget a0_1m (gt y9 t249)).getD []) t284)) hS306 (one_explore_edge _) ?_
      intro w308 hS309
      refine sR 4 (iR p39_50 2 4::td70) ?_
      refine rL1 9 (.tmp 32) 3 (hS309.blk 0 rfl) ?_
      refine rV (.lookup 41 (.tmp 31) (.tmp 33) false) (.int .i64 ((mget t285 ((gt ((mget a0_1m (gt y9 t249)).getD []) t284).to)).getD (0 : Int))) (fun o ho _ => x_lookup1 (eK:=Value.string) (eV:=(Value.int .i64)) (dk:=.string) (b:=b5) (t:=41) (kt:=9) (et:=3) (m:=t285) (kk:=((gt ((mget a0_1m (gt y9 t249)).getD []) t284).to)) (z:=(0 : Int)) (hS309.at 3 rfl) key_str (by kernel_rfl) (by kernel_rfl) (by kernel_rfl) (by kernel_rfl) (by kernel_rfl) ho) ?_
      refine sR 1 (.inRegion (opsOf p39_50) [5]::td70) ?_
      have hS310:=hS309.pick3
      refine r_mapUpdate (c:=p39_50) (i:=5) (d:=none) (ty:=0) (eK:=Value.string) (eV:=(Value.int .i64)) (dk:=.string) (b:=b5) (t:=41) (kt:=9) (et:=3) (x:=(.tmp 31)) (y:=(.tmp 33)) (z:=(.tmp 35)) (m:=t285) (kk:=((gt ((mget a0_1m (gt y9 t249)).getD []) t284).to)) (v:=(IntKind.i64.wrap (((mget t285 ((gt ((mget a0_1m (gt y9 t249)).getD []) t284).to)).getD (0 : Int)) + 1))) hS310 (by kernel_rfl) (by kernel_rfl) key_str (by kernel_rfl) (by kernel_rfl) (by kernel_rfl) (by kernel_rfl) (by kernel_rfl) ?_
      intro w311 hS312
      refine sR 6 td67 ?_
      have hS313:=hS312.pick1
      have hS314:=hS313.drop
      have hS315:=hS314.pick2
      have hS316:=hS315.pick2
      refine sR 1 td68 ?_
      exact rF _ (ih292 (IntKind.i64.wrap (t284 + 1)) (mput t285 ((gt ((mget a0_1m (gt y9 t249)).getD []) t284).to) (IntKind.i64.wrap (((mget t285 ((gt ((mget a0_1m (gt y9 t249)).getD []) t284).to)).getD (0 : Int)) + 1))) _ hp299 he290 _ _ hS316)
     refine sR 4 td65 ?_
     exact rF _ (J281 t285 ((Option.some.inj hp317).trans he290) _ _ hS287)
    exact rF _ (L294 0 t250 _ hv276 rfl _ _ hS252)
   refine sR 4 td49 ?_
   exact rF _ (J16 t250 ((Option.some.inj hp318).trans he255) _ _ hS252)
  have hS319:=hS9.pick2
  have hS320:=hS319.pick2
  exact rF _ (L259 0 ([] : List (ByteArray × Int)) _ hv11 rfl _ _ hS320)

noncomputable def cd40 (p : List Nat) : Code := sub (bodyOf Try.f40) p
def slices_Backward___string_string.f (a0 : List ByteArray) : Option (List ByteArray) :=
  some (a0)
theorem slices_Backward___string_string.ok {a0 : List ByteArray} {Aa0 : Option Addr} {ca0 : Nat} {q0 : List ByteArray} (hp0 : slices_Backward___string_string.f a0 = some q0) (hS0 : St w0 Z (fs) w) (ha0 : SlZ (flat encS) 1 Z Aa0 ca0 a0) :
    Calls Try.prog 40 #[.slice Aa0 a0.length ca0] w (fun e w' => ∃ (Qb0 : Nat) (QA1 : Option Addr) (Qc1 : Nat),e = .returned (.func (.func 48) #[] #[.pointer (some ⟨Qb0,0,none⟩)]) ∧ St w0 Z (xblk Qb0 36 ([.slice QA1 q0.length Qc1])::fs) w' ∧ SlZ (flat encS) 1 Z QA1 Qc1 q0):=by
  refine calls_abs ?_; intro R hR
  unfold slices_Backward___string_string.f at hp0
  refine calls_of_runs (fn:=Try.f40) (c:=cd40 []) Try.func40 (by kernel_rfl) (al:=[.slice Aa0 a0.length ca0]) rfl (n:=3) rfl ?_
  refine sR 2 [.inRegion (opsOf (cd40 [0])) [0,1],.code (cd40 [1])] ?_
  refine r_box (c:=(cd40 [0])) (i:=0) (d:=(some 1)) (ty:=0) (x:=(.tmp 0)) (v:=.slice Aa0 a0.length ca0) (t:=36) (cs:=[.slice Aa0 a0.length ca0]) hS0 (by kernel_rfl) (by kernel_rfl) (by kernel_rfl) (by kernel_rfl) ?_
  intro b1 w2 hS3
  refine sR 7 [.code (cd40 [1,1])] ?_
  refine rR (.func (.func 48) #[] #[.pointer (some ⟨b1,0,none⟩)]) Try.func40 ?_
  cases Option.some.inj hp0
  exact hR _ _ ⟨b1,Aa0,ca0,rfl,hS3,ha0⟩

end
end Go.Proofs.Ytfiamlhhhkiiaaa.K
