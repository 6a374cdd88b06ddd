/- The walk, part 3: each Go function as a plain Lean function, and that its call answers as that function says. No condition. -/
import Derived.Test.YtfiamlhhhkiiaaaE
import Derived.Test.YtfiamlhhhkiiaaaNG
import Derived.Test.YtfiamlhhhkiiaaaNP
import Derived.Test.YtfiamlhhhkiiaaaNM
import Derived.Test.YtfiamlhhhkiiaaaNQ
import Derived.Test.YtfiamlhhhkiiaaaNI
import Derived.Test.YtfiamlhhhkiiaaaNX
import Derived.Test.YtfiamlhhhkiiaaaNY
import Derived.Test.YtfiamlhhhkiiaaaNC
import Derived.Test.YtfiamlhhhkiiaaaNF
import Derived.Test.YtfiamlhhhkiiaaaNW
import Derived.Test.YtfiamlhhhkiiaaaNK
import Derived.Test.YtfiamlhhhkiiaaaND
import Derived.Test.YtfiamlhhhkiiaaaW2
set_option linter.unusedVariables false
set_option linter.unusedSimpArgs false
set_option maxRecDepth 100000
set_option synthInstance.maxSize 100000
set_option synthInstance.maxHeartbeats 4000000
namespace Go.Proofs.Ytfiamlhhhkiiaaa.K
open Go Go.RowKit
noncomputable section
set_option maxHeartbeats 16000000
variable {w0 : World} {Z : Zm} {fs : List XObj} {w : World}
noncomputable def cd18 (p : List Nat) : Code := sub (bodyOf Try.f18) p
abbrev p18_10:=cd18 [1,1,0,1,0,0,1,0,0,0]
abbrev td110:List Item:=[.code (cd18 [1,1,1])]
abbrev td111:List Item:=.inBlock 0::td110
abbrev td112:List Item:=.inLoop (cd18 [1,1,0,1,0,0])::td111
abbrev td113:List Item:=.code (cd18 [1,1,0,1,0,0])::td112
def weirlaw11_SamePicks.l0 (a0 a1 : List api_Pick) (t16 : Int) : Option (Sum Unit Bool) :=
  (if (decide (t16 < (a0.length : Int))) = true then (if 0 ≤ t16 ∧ t16 < (a0.length : Int) then (if 0 ≤ t16 ∧ t16 < (a1.length : Int) then (if (!(decide ((gt a0 t16) = (gt a1 t16)))) = true then some (.inr (false)) else (weirlaw11_SamePicks.l0 a0 a1 (IntKind.i64.wrap (t16 + 1)))) else none) else none) else some (.inl ()))
 partial_fixpoint
def weirlaw11_SamePicks.f (a0 a1 : List api_Pick) : Option Bool :=
  (if ((a0.length : Int) != (a1.length : Int)) = true then some (false) else (weirlaw11_SamePicks.l0 a0 a1 0 >>= (fun | .inl () => some (true) | .inr e => some e)))
theorem weirlaw11_SamePicks.ok {a0 a1 : List api_Pick} {Aa0 : Option Addr} {ca0 : Nat} {Aa1 : Option Addr} {ca1 : Nat} {q0 : Bool} (hp0 : weirlaw11_SamePicks.f a0 a1 = some q0) (hS0 : St w0 Z (fs) w) (ha0 : SlZ (flat enc_api_Pick) 3 Z Aa0 ca0 a0) (ha1 : SlZ (flat enc_api_Pick) 3 Z Aa1 ca1 a1) :
    Calls Try.prog 18 #[.slice Aa0 a0.length ca0,.slice Aa1 a1.length ca1] w (fun e w' => e = .returned (.bool q0) ∧ St w0 Z (fs) w'):=by
  refine calls_abs ?_; intro R hR
  unfold weirlaw11_SamePicks.f at hp0
  refine calls_of_runs (fn:=Try.f18) (c:=cd18 []) Try.func18 (by kernel_rfl) (al:=[.slice Aa0 a0.length ca0,.slice Aa1 a1.length ca1]) rfl (n:=24) rfl ?_
  refine sI 12 [.inRegion (opsOf (cd18 [1,0,0])) [],.code (cd18 [1,0,1]),.code (cd18 [1,1])] 10 hp0 (fun hp3 => ?_) fun hp5 => ?_
  ·refine sR 6 [.code (cd18 [1,0,1,0,1]),.code (cd18 [1,1])] ?_
   refine rR (.bool false) Try.func18 ?_
   cases Option.some.inj hp3
   exact hR _ _ ⟨rfl,hS0⟩
  refine sR 10 td113 ?_
  obtain ⟨v6,hv7,hp8⟩:=bind_some' hp5
  have hq11 : ∀ x,Sum.inr x = v6 → x = q0:=by intro x hx; subst hx; simpa using hp8
  have J12 : ∀ (he14 : Sum.inl () = v6) (l13 : List Value) (w9 : World) (hS10 : St w0 Z (fs) w9),Runs Try.prog (fx 18) td110 (fill (mk 26 []) l13) w9 R:=by
   intro he14 l13 w9 hS10
   subst he14
   try dsimp only at hp8
   refine sR 4 [.code (cd18 [1,1,1,1])] ?_
   refine rR (.bool true) Try.func18 ?_
   cases Option.some.inj hp8
   exact hR _ _ ⟨rfl,hS10⟩
  have L25 : ∀ (t16 : Int) (e20 : Sum Unit Bool),weirlaw11_SamePicks.l0 a0 a1 t16 = some e20 → e20 = v6 → ∀ (l19 : List Value) (w17 : World) (hS18 : St w0 Z (fs) w17),Runs Try.prog (fx 18) td113 (fill (mk 26 [(0,.slice Aa0 a0.length ca0),(1,.slice Aa1 a1.length ca1),(5,.int .i64 t16)]) l19) w17 R:=by
   refine weirlaw11_SamePicks.l0.partial_correctness a0 a1 (fun t16 e20 => e20 = v6 → ∀ (l19 : List Value) (w17 : World) (hS18 : St w0 Z (fs) w17),Runs Try.prog (fx 18) td113 (fill (mk 26 [(0,.slice Aa0 a0.length ca0),(1,.slice Aa1 a1.length ca1),(5,.int .i64 t16)]) l19) w17 R) ?_
   intro rec24 ih23 t16 e20 hb22 he21 l19 w17 hS18
   have hq26 : ∀ x,Sum.inr x = e20 → x = q0:=fun x hx => hq11 x (hx.trans he21)
   refine sI 7 (.inRegion (opsOf (cd18 [1,1,0,1,0,0,0,0])) []::.code (cd18 [1,1,0,1,0,0,0,1])::.code (cd18 [1,1,0,1,0,0,1])::td112) 14 hb22 (fun hp29 => ?_) fun hp51 => ?_
   ·refine sR 6 (.code p18_10::.code (cd18 [1,1,0,1,0,0,1,0,0,1])::.inBlock 1::.code (cd18 [1,1,0,1,0,0,1,1])::td112) ?_
    refine r_quiet hS18 (c:=p18_10) (id:=6) (by kernel_rfl) (by kernel_rfl) (by kernel_rfl) (is:=[0,1,2,3,4,5,6,7,8]) (by kernel_rfl) ?_
    refine qR 2 (rg 2 7) ?_
    obtain ⟨g30,hp31⟩:=ite_some hp29
    obtain ⟨b32,p33,hA34,hc35⟩:=ha0.atF g30.1 g30.2
    refine q_indexAddr (c:=p18_10) (i:=2) (d:=(some 19)) (ty:=0) (t:=40) (e:=88) (n:=a0.length) (cp:=ca0) (sz:=3) (kk:=.i64) (x:=(.tmp 17)) (y:=(.tmp 18)) (b:=b32) (o':=p33) (j:=t16) (by kernel_rfl) (by kernel_rfl) (slv (by kernel_rfl) hA34) (by kernel_rfl) (by kernel_rfl) (by kernel_rfl) g30.1 g30.2 ?_
    refine qLa 88 (.tmp 19) (fun w hC => (hc35.cells hC)) ?_
    refine qR 2 [6,7,8] ?_
    obtain ⟨g36,hp37⟩:=ite_some hp31
    obtain ⟨b38,p39,hA40,hc41⟩:=ha1.atF g36.1 g36.2
    refine q_indexAddr (c:=p18_10) (i:=6) (d:=(some 23)) (ty:=0) (t:=40) (e:=88) (n:=a1.length) (cp:=ca1) (sz:=3) (kk:=.i64) (x:=(.tmp 21)) (y:=(.tmp 22)) (b:=b38) (o':=p39) (j:=t16) (by kernel_rfl) (by kernel_rfl) (slv (by kernel_rfl) hA40) (by kernel_rfl) (by kernel_rfl) (by kernel_rfl) g36.1 g36.2 ?_
    refine qLa 88 (.tmp 23) (fun w hC => (hc41.cells hC)) ?_
    refine qV (.binOp .neq 88 (.tmp 20) (.tmp 24) 88) (.bool (!(decide ((gt a0 t16) = (gt a1 t16))))) (fun w hC o ho _ => x_neq_api_Pick (by kernel_rfl) (by kernel_rfl) ho) ?_
    refine q_split (!(decide ((gt a0 t16) = (gt a1 t16)))) (fun h42 => ?_) (fun h43 => ?_)
    ·have hp44:=ite_t hp37 h42
     refine Qs.nil ?_
     intro w45 hS46
     refine sR 5 (.code (cd18 [1,1,0,1,0,0,1,0,0,1,0,1])::.inBlock 1::.code (cd18 [1,1,0,1,0,0,1,1])::td112) ?_
     refine rR (.bool false) Try.func18 ?_
     cases hq26 _ (Option.some.inj hp44)
     exact hR _ _ ⟨rfl,hS46⟩
    have hp48:=ite_f hp37 h43
    refine Qs.nil ?_
    intro w49 hS50
    refine sR 8 td112 ?_
    refine sR 1 td113 ?_
    exact rF _ (ih23 (IntKind.i64.wrap (t16 + 1)) _ hp48 he21 _ _ hS50)
   refine sR 3 td110 ?_
   exact rF _ (J12 ((Option.some.inj hp51).trans he21) _ _ hS18)
  exact rF _ (L25 0 _ hv7 rfl _ _ hS0)

noncomputable def cd19 (p : List Nat) : Code := sub (bodyOf Try.f19) p
def weirlaw14_num.f (a0 : Int) : Option Int :=
  some (a0)
theorem weirlaw14_num.ok {a0 q0 : Int} (hp0 : weirlaw14_num.f a0 = some q0) (hS0 : St w0 Z (fs) w) :
    Calls Try.prog 19 #[.int .i64 a0] w (fun e w' => e = .returned (.int .i64 q0) ∧ St w0 Z (fs) w'):=by
  refine calls_abs ?_; intro R hR
  unfold weirlaw14_num.f at hp0
  refine calls_of_runs (fn:=Try.f19) (c:=cd19 []) Try.func19 (by kernel_rfl) (al:=[.int .i64 a0]) rfl (n:=3) rfl ?_
  refine sR 9 [.code (cd19 [1,1])] ?_
  refine rR (.int .i64 a0) Try.func19 ?_
  cases Option.some.inj hp0
  exact hR _ _ ⟨rfl,hS0⟩

noncomputable def cd4 (p : List Nat) : Code := sub (bodyOf Try.f4) p
abbrev p4_8:=cd4 [1,1,1,1,0,1,0,0]
abbrev p4_14:=cd4 [1,1,1,1,1,1,1,0]
abbrev p4_15:=cd4 [1,1,1,1,1,1,1,1]
abbrev p4_18:=cd4 [1,1,1,1,1,1,1,1,1,0,0]
abbrev p4_19:=cd4 [1,1,1,1,1,1,1,1,1,0,1]
abbrev p4_20:=cd4 [1,1,1,1,1,1,1,1,1,1]
abbrev p4_21:=cd4 [1,1,1,1,1,1,1,1,1,0,1,0,1]
abbrev p4_22:=cd4 [1,1,1,1,1,1,1,1,1,1,0]
abbrev p4_23:=cd4 [1,1,1,1,1,1,1,1,1,1,1]
abbrev p4_24:=cd4 [1,1,1,1,1,1,1,1,1,1,1,0]
abbrev p4_25:=cd4 [1,1,1,1,1,1,1,1,1,1,1,1]
abbrev p4_26:=cd4 [1,1,1,1,1,1,1,1,1,1,1,1,0,0]
abbrev p4_29:=cd4 [1,1,1,1,1,1,1,1,1,1,1,1,0,1,0,1]
abbrev p4_30:=cd4 [1,1,1,1,1,1,1,1,1,1,1,1,1,0,1,0,0]
abbrev p4_32:=cd4 [1,1,1,1,1,1,1,1,1,1,1,1,1,1,1]
abbrev p4_36:=cd4 [1,1,1,1,1,1,1,1,1,1,1,1,1,0,1,0,0,1,0,0,0]
abbrev p4_38:=cd4 [1,1,1,1,1,1,1,1,1,1,1,1,1,0,1,0,0,1,1]
abbrev p4_39:=cd4 [1,1,1,1,1,1,1,1,1,1,1,1,1,0,1,0,0,1,0,0,1,0,1]
abbrev p4_40:=cd4 [1,1,1,1,0,1,0,0,0,0]
abbrev p4_41:=cd4 [1,1,1,1,0,1,0,0,0,1]
abbrev p4_42:=cd4 [1,1,1,1,0,1,0,0,1]
abbrev p4_43:=cd4 [1,1,1,1,0,1,0,0,1,0,0,0]
abbrev p4_46:=cd4 [1,1,1,1,0,1,0,0,1,0,0,1,0,0]
abbrev p4_47:=cd4 [1,1,1,1,0,1,0,0,1,0,0,1,0,1]
abbrev td114:List Item:=[.code (cd4 [1,1,1,1,1])]
abbrev td115:List Item:=.inBlock 0::td114
abbrev td116:List Item:=.inLoop p4_8::td115
abbrev td117:List Item:=.code p4_8::td116
abbrev td118:List Item:=[.code (cd4 [1,1,1,1,1,1,1,1,1,1,1,1,1])]
abbrev td119:List Item:=.code (cd4 [1,1,1,1,1,1,1,1,1,1,1,1,0,1])::td118
abbrev td120:List Item:=.code p4_29::td118
abbrev td121:List Item:=[.code (cd4 [1,1,1,1,1,1,1,1,1,1,1,1,1,1])]
abbrev td122:List Item:=.inBlock 2::td121
abbrev td123:List Item:=.inLoop p4_30::td122
abbrev td124:List Item:=.code p4_30::td123
abbrev td125:List Item:=.code (cd4 [1,1,1,1,0,1,0,0,1,1])::td116
abbrev td126:List Item:=.inBlock 1::td125
def weirlaw14_ExploreWay.l1 (t91 t118 : List ByteArray) (t203 t373 : Int) : Option (Sum Unit Bool) :=
  (if (decide (t373 < t203)) = true then (if 0 ≤ t373 ∧ t373 < (t91.length : Int) then (if 0 ≤ t373 ∧ t373 < (t118.length : Int) then (if (!seq (gt t91 t373) (gt t118 t373)) = true then some (.inr (false)) else (weirlaw14_ExploreWay.l1 t91 t118 t203 (IntKind.i64.wrap (t373 + 1)))) else none) else none) else some (.inl ()))
 partial_fixpoint
def weirlaw14_ExploreWay.l0 (a0 : weirlaw14_Net) (a2 : List Int) (t418 : List ByteArray) (t422 : Int) (t423 : List (ByteArray × Int)) : Option ((List ByteArray) × (List (ByteArray × Int))) :=
  (if (decide (t422 < (a2.length : Int))) = true then (if (decide (t422 < 100)) = true then (if 0 ≤ t422 ∧ t422 < (a2.length : Int) then (if (decide ((gt a2 t422) ≥ 0)) = true then (if 0 ≤ t422 ∧ t422 < (a2.length : Int) then (if (decide ((gt a2 t422) < (a0.Next.length : Int))) = true then (if 0 ≤ t422 ∧ t422 < (a2.length : Int) then (weirlaw14_name.f (gt a2 t422) >>= (fun t465 => (if 0 ≤ t422 ∧ t422 < (a2.length : Int) then (weirlaw14_name.f (gt a2 t422) >>= (fun t483 => (if (t418.length + ([t483] : List ByteArray).length) * 16 ≤ 140737488355328 then (weirlaw14_ExploreWay.l0 a0 a2 (t418 ++ ([t483] : List ByteArray)) (IntKind.i64.wrap (t422 + 1)) (mput t423 t465 1)) else none))) else none))) else none) else (weirlaw14_ExploreWay.l0 a0 a2 (id t418) (IntKind.i64.wrap (t422 + 1)) (id t423))) else none) else (weirlaw14_ExploreWay.l0 a0 a2 (id t418) (IntKind.i64.wrap (t422 + 1)) (id t423))) else none) else some ((t418,t423))) else some ((t418,t423)))
 partial_fixpoint
def weirlaw14_ExploreWay.f (a0 : weirlaw14_Net) (a1 : Int) (a2 : List Int) : Option Bool :=
  (weirlaw14_Net__fine.f a0 >>= (fun t5 => (if (!t5) = true then some (true) else (weirlaw14_ExploreWay.l0 a0 a2 [] 0 ([] : List (ByteArray × Int)) >>= (fun (t30,t34) => (weirlaw14_Net__machine.f a0 >>= (fun (t44,t45,t46,t47,t48,t49) => (explore_Way.f t44 t45 t46 t47 t48 t49 a1 ([] : List ByteArray) t34 >>= (fun (t86,t87,t88,t89,t90,t91) => (weirlaw14_reachable.f a0 >>= (fun t118 => (weirlaw14_Book__within.f t89 t46 t90 t88 t118 >>= (fun (t126,t127) => (if (!t126) = true then some (false) else (weirlaw14_Net__machine.f a0 >>= (fun (t162,t163,t164,t165,t166,t167) => (weirref14_Way.f t162 t163 t164 t165 t166 t167 (bmin a1 70000) t30 >>= (fun (t202,t203,t204,t205,t206,t207,t208) => (weirlaw11_SamePicks.f t86 t202 >>= (fun t232 => (if (!t232) = true then some (false) else (weirlaw14_num.f t87 >>= (fun t272 => (if (t272 != t204) = true then some (false) else (if ((t91.length : Int) != t203) = true then some (false) else (weirlaw14_ExploreWay.l1 t91 t118 t203 0 >>= (fun | .inl () => some (true) | .inr e => some e)))))))))))))))))))))))))))
theorem weirlaw14_ExploreWay.ok (a0 : weirlaw14_Net) (a1 : Int) (a2 : List Int) (y0 : Option Addr) (y1 : Nat) (y2 : Option Addr) (y3 : Nat) (y4 : Option Addr) (y5 : Nat) (Aa2 : Option Addr) (ca2 : Nat) (hS0 : St w0 Z (fs) w) (y6 : SlZ (repL (flat (encI .i64)) 1) 1 Z y0 y1 a0.Next) (y7 : SlZ (flat encB) 1 Z y2 y3 a0.End) (y8 : SlZ (flat (encI .i64)) 1 Z y4 y5 a0.Value) (ha2 : SlZ (flat (encI .i64)) 1 Z Aa2 ca2 a2) {q0 : Bool} (hp0 : weirlaw14_ExploreWay.f a0 a1 a2 = some q0) :
    Calls Try.prog 4 #[.agg #[.slice y0 a0.Next.length y1,.slice y2 a0.End.length y3,.slice y4 a0.Value.length y5,.int .i64 a0.Start],.int .i64 a1,.slice Aa2 a2.length ca2] w (fun e w' => e = .returned (.bool q0) ∧ St w0 Z (fs) w'):=by
  refine calls_abs ?_; intro R hR
  unfold weirlaw14_ExploreWay.f at hp0
  refine calls_of_runs (fn:=Try.f4) (c:=cd4 []) Try.func4 (by kernel_rfl) (al:=[.agg #[.slice y0 a0.Next.length y1,.slice y2 a0.End.length y3,.slice y4 a0.Value.length y5,.int .i64 a0.Start],.int .i64 a1,.slice Aa2 a2.length ca2]) rfl (n:=124) rfl ?_
  refine sR 2 [.inRegion (opsOf (cd4 [0])) [0,1],.code (cd4 [1])] ?_
  refine r_box (c:=(cd4 [0])) (i:=0) (d:=(some 3)) (ty:=0) (x:=(.tmp 0)) (v:=.agg #[.slice y0 a0.Next.length y1,.slice y2 a0.End.length y3,.slice y4 a0.Value.length y5,.int .i64 a0.Start]) (t:=26) (cs:=[.slice y0 a0.Next.length y1,.slice y2 a0.End.length y3,.slice y4 a0.Value.length y5,.int .i64 a0.Start]) hS0 (by kernel_rfl) (by kernel_rfl) (by kernel_rfl) (by kernel_rfl) ?_
  intro b1 w2 hS3
  refine sR 5 [.inRegion (opsOf (cd4 [1,0,0])) [0,1,2],.code (cd4 [1,0,1]),.code (cd4 [1,1])] ?_
  refine rLa 26 (.tmp 3) (hS3.blk 0 rfl) ?_
  obtain ⟨t5,hr6,hp7⟩:=bind_some' hp0
  refine rC (weirlaw14_Net__fine.ok hr6 hS3 y6 y7 y8) ?_
  rintro _ w8 ⟨rfl,hS9⟩
  refine ⟨_,rfl,?_⟩
  refine sI 1 [.inRegion (opsOf (cd4 [1,0,0])) [],.code (cd4 [1,0,1]),.code (cd4 [1,1])] 24 hp7 (fun hp12 => ?_) fun hp15 => ?_
  ·refine sR 6 [.code (cd4 [1,0,1,0,1]),.code (cd4 [1,1])] ?_
   have hS13:=hS9.drop
   refine rR (.bool true) Try.func4 ?_
   cases Option.some.inj hp12
   exact hR _ _ ⟨rfl,hS13⟩
  refine sR 5 [.inRegion (opsOf (cd4 [1,1,0])) [0,1,2],.code (cd4 [1,1,1])] ?_
  refine r_makeMap (c:=(cd4 [1,1,0])) (i:=0) (d:=(some 25)) (ty:=41) (t:=41) hS9 (by kernel_rfl) (by kernel_rfl) ?_
  intro b16 w17 hS18
  have hS20 : St w0 Z (xmap b16 (([] : List (ByteArray × Int)).map (kv Value.string (Value.int .i64)))::xblk b1 26 ([.slice y0 a0.Next.length y1,.slice y2 a0.End.length y3,.slice y4 a0.Value.length y5,.int .i64 a0.Start])::fs) w17:=hS18
  refine rA 41 (.map none) [.map none] hS20 ?_
  intro b21 w22 hS23
  refine rS 41 (.tmp 7) (.tmp 25) 0 (.map (some b16)) [.map (some b16)] [.map (some b16)] hS23 ?_
  intro w25 hS26
  refine sR 12 td117 ?_
  obtain ⟨v27,hv28,hp29⟩:=bind_some' hp15
  have J37 : ∀ (t30 : List ByteArray) (t34 : List (ByteArray × Int)) (he39 : (t30,t34) = v27) (l38 : List Value) (A31 : Option Addr) (c32 : Nat) (w35 : World) (hS36 : St w0 Z (xblk b1 26 ([.slice y0 a0.Next.length y1,.slice y2 a0.End.length y3,.slice y4 a0.Value.length y5,.int .i64 a0.Start])::xblk b21 41 ([.map (some b16)])::xmap b16 (t34.map (kv Value.string (Value.int .i64)))::xrow A31 c32 9 1 (t30.flatMap encS)::fs) w35),Runs Try.prog (fx 4) td114 (fill (mk 127 [(1,.int .i64 a1),(3,.pointer (some ⟨b1,0,none⟩)),(7,.pointer (some ⟨b21,0,none⟩)),(8,.slice A31 t30.length c32)]) l38) w35 R:=by
   intro t30 t34 he39 l38 A31 c32 w35 hS36
   subst he39
   try dsimp only at hp29
   refine sR 2 [.inRegion (opsOf (cd4 [1,1,1,1,1,0])) [0],.code (cd4 [1,1,1,1,1,1])] ?_
   refine rA 36 (.slice none 0 0) [.slice none 0 0] hS36 ?_
   intro b40 w41 hS42
   refine sR 3 [iR (cd4 [1,1,1,1,1,1,0]) 0 8,.code (cd4 [1,1,1,1,1,1,1])] ?_
   refine rLa 26 (.tmp 3) (hS42.blk 1 rfl) ?_
   obtain ⟨⟨t44,t45,t46,t47,t48,t49⟩,hr62,hp63⟩:=bind_some' hp29
   try dsimp only at hp63
   refine rC (weirlaw14_Net__machine.ok hr62 hS42 y6 y7 y8) ?_
   rintro _ w73 ⟨Q50,Q51,Q52,Q53,Q54,Q55,Q56,Q57,Q58,Q59,Q60,Q61,rfl,hS74,hs75,hs76,hs77⟩
   refine ⟨_,rfl,?_⟩
   refine sR 3 [.inRegion (opsOf (cd4 [1,1,1,1,1,1,0])) [5,6,7],.code (cd4 [1,1,1,1,1,1,1])] ?_
   refine rA 32 (.agg #[.string (⟨#[]⟩ : ByteArray),.nilFunc,.nilFunc,.nilFunc]) [.string (⟨#[]⟩ : ByteArray),.nilFunc,.nilFunc,.nilFunc] hS74 ?_
   intro b78 w79 hS80
   refine rS 32 (.tmp 11) (.tmp 68) 0 (.agg #[.string t44,.func (.func 28) #[] #[.pointer (some ⟨Q50,0,none⟩),.pointer (some ⟨Q55,0,none⟩)],.func (.func 31) #[] #[.pointer (some ⟨Q55,0,none⟩),.pointer (some ⟨Q50,0,none⟩)],.func (.func 32) #[] #[.pointer (some ⟨Q50,0,none⟩),.pointer (some ⟨Q55,0,none⟩)]]) [.string t44,.func (.func 28) #[] #[.pointer (some ⟨Q50,0,none⟩),.pointer (some ⟨Q55,0,none⟩)],.func (.func 31) #[] #[.pointer (some ⟨Q55,0,none⟩),.pointer (some ⟨Q50,0,none⟩)],.func (.func 32) #[] #[.pointer (some ⟨Q50,0,none⟩),.pointer (some ⟨Q55,0,none⟩)]] [.string t44,.func (.func 28) #[] #[.pointer (some ⟨Q50,0,none⟩),.pointer (some ⟨Q55,0,none⟩)],.func (.func 31) #[] #[.pointer (some ⟨Q55,0,none⟩),.pointer (some ⟨Q50,0,none⟩)],.func (.func 32) #[] #[.pointer (some ⟨Q50,0,none⟩),.pointer (some ⟨Q55,0,none⟩)]] hS80 ?_
   intro w82 hS83
   refine sR 4 [iR p4_14 0 9,.code p4_15] ?_
   refine rLa 32 (.tmp 11) (hS83.blk 0 rfl) ?_
   refine sR 2 [iR p4_14 3 6,.code p4_15] ?_
   have hS85:=hS83.nilrow none 9 1
   obtain ⟨⟨t86,t87,t88,t89,t90,t91⟩,hr96,hp97⟩:=bind_some' hp63
   try dsimp only at hp97
   have hS103:=hS85.pick11
   have hS104:=hS103.pick11
   have hS105:=hS104.pick2
   have hS106:=hS105.pick10
   have hS107:=hS106.pick10
   have hS108:=hS107.pick10
   have hS109:=hS108.pick10
   have hS110:=hS109.pick10
   have hS111:=hS110.pick10
   have hS112:=hS111.pick10
   refine rC (explore_Way.ok hr96 hS112 hs75 hs76 hs77) ?_
   rintro _ w113 ⟨Q92,Q93,Q94,Q95,Z115,hz116,rfl,hS114,hs117⟩
   refine ⟨_,rfl,?_⟩
   refine sR 8 [.inRegion (opsOf (cd4 [1,1,1,1,1,1,1,1,0])) [0,1,2],.code (cd4 [1,1,1,1,1,1,1,1,1])] ?_
   refine rLa 26 (.tmp 3) (hS114.blk 11 rfl) ?_
   obtain ⟨t118,hr121,hp122⟩:=bind_some' hp97
   refine rC (weirlaw14_reachable.ok hr121 hS114 (SlZ.mono (mono_repL (mono_flat _)) y6 hz116) (y7.up hz116) (y8.up hz116)) ?_
   rintro _ w124 ⟨Q119,Q120,rfl,hS125⟩
   refine ⟨_,rfl,?_⟩
   refine sR 7 [.inRegion (opsOf p4_18) [2,3],.code p4_19,.code p4_20] ?_
   obtain ⟨⟨t126,t127⟩,hr128,hp129⟩:=bind_some' hp122
   try dsimp only at hp129
   obtain ⟨Z130,hz131,hS132,hs133,hb134⟩:=hS125.lendrow len_encS (by omega)
   have hS135:=hS132.pick5
   have hS136:=hS135.pick5
   have hS137:=hS136.pick5
   have hS138:=hS137.pick5
   refine rC (weirlaw14_Book__within.ok hr128 hS138 hs133) ?_
   rintro _ w139 ⟨rfl,hS140⟩
   refine ⟨_,rfl,?_⟩
   have hS141:=hb134 _ _ hS140
   refine sI 1 [.inRegion (opsOf p4_18) [],.code p4_19,.code p4_20] 82 hp129 (fun hp144 => ?_) fun hp161 => ?_
   ·refine sR 6 [.code p4_21,.code p4_20] ?_
    refine r_isret (c:=p4_21) (by kernel_rfl) ?_
    have hS145:=hS141.drop
    have hS146:=hS145.drop
    have hS147:=hS146.drop
    have hS148:=hS147.drop
    have hS149:=hS148.drop
    have hS150:=hS149.drop
    have hS151:=hS150.drop
    have hS152:=hS151.drop
    have hS153:=hS152.drop
    have hS154:=hS153.drop
    have hS155:=hS154.drop
    have hS156:=hS155.drop
    have hS157:=hS156.drop
    have hS158:=hS157.drop
    have hS159:=hS158.less hz116
    refine rR (.bool false) Try.func4 ?_
    cases Option.some.inj hp144
    exact hR _ _ ⟨rfl,hS159⟩
   refine sR 5 [iR p4_22 0 8,.code p4_23] ?_
   refine rLa 26 (.tmp 3) (hS141.blk 12 rfl) ?_
   obtain ⟨⟨t162,t163,t164,t165,t166,t167⟩,hr180,hp181⟩:=bind_some' hp161
   try dsimp only at hp181
   refine rC (weirlaw14_Net__machine.ok hr180 hS141 (SlZ.mono (mono_repL (mono_flat _)) y6 hz116) (y7.up hz116) (y8.up hz116)) ?_
   rintro _ w191 ⟨Q168,Q169,Q170,Q171,Q172,Q173,Q174,Q175,Q176,Q177,Q178,Q179,rfl,hS192,hs193,hs194,hs195⟩
   refine ⟨_,rfl,?_⟩
   refine sR 3 [.inRegion (opsOf p4_22) [5,6,7],.code p4_23] ?_
   refine rA 32 (.agg #[.string (⟨#[]⟩ : ByteArray),.nilFunc,.nilFunc,.nilFunc]) [.string (⟨#[]⟩ : ByteArray),.nilFunc,.nilFunc,.nilFunc] hS192 ?_
   intro b196 w197 hS198
   refine rS 32 (.tmp 16) (.tmp 86) 0 (.agg #[.string t162,.func (.func 28) #[] #[.pointer (some ⟨Q168,0,none⟩),.pointer (some ⟨Q173,0,none⟩)],.func (.func 31) #[] #[.pointer (some ⟨Q173,0,none⟩),.pointer (some ⟨Q168,0,none⟩)],.func (.func 32) #[] #[.pointer (some ⟨Q168,0,none⟩),.pointer (some ⟨Q173,0,none⟩)]]) [.string t162,.func (.func 28) #[] #[.pointer (some ⟨Q168,0,none⟩),.pointer (some ⟨Q173,0,none⟩)],.func (.func 31) #[] #[.pointer (some ⟨Q173,0,none⟩),.pointer (some ⟨Q168,0,none⟩)],.func (.func 32) #[] #[.pointer (some ⟨Q168,0,none⟩),.pointer (some ⟨Q173,0,none⟩)]] [.string t162,.func (.func 28) #[] #[.pointer (some ⟨Q168,0,none⟩),.pointer (some ⟨Q173,0,none⟩)],.func (.func 31) #[] #[.pointer (some ⟨Q173,0,none⟩),.pointer (some ⟨Q168,0,none⟩)],.func (.func 32) #[] #[.pointer (some ⟨Q168,0,none⟩),.pointer (some ⟨Q173,0,none⟩)]] hS198 ?_
   intro w200 hS201
   refine sR 4 [iR p4_24 0 12,.code p4_25] ?_
   refine rLa 32 (.tmp 16) (hS201.blk 0 rfl) ?_
   refine sR 3 [iR p4_24 4 8,.code p4_25] ?_
   obtain ⟨⟨t202,t203,t204,t205,t206,t207,t208⟩,hr211,hp212⟩:=bind_some' hp181
   try dsimp only at hp212
   have hS217:=hS201.pick20
   obtain ⟨Z218,hz219,hS220,hs221,hb222⟩:=hS217.lendrow len_encS (by omega)
   have hS223:=hS220.pick6
   have hS224:=hS223.pick6
   have hS225:=hS224.pick6
   have hS226:=hS225.pick6
   have hS227:=hS226.pick6
   have hS228:=hS227.pick6
   refine rC (weirref14_Way.ok hr211 hS228 (SlZ.mono (mono_repL (mono_flat _)) hs193 hz219) (hs194.up hz219) (hs195.up hz219) hs221) ?_
   rintro _ w229 ⟨Q209,Q210,rfl,hS230⟩
   refine ⟨_,rfl,?_⟩
   have hS231:=hb222 _ _ hS230
   refine sR 13 (iR p4_26 2 14::td119) ?_
   obtain ⟨t232,hr233,hp234⟩:=bind_some' hp212
   have hS235:=hS231.pick1
   obtain ⟨Z236,hz237,hS238,hs239,hb240⟩:=hS235.lendrow len_api_Pick (by omega)
   refine rC (weirlaw11_SamePicks.ok hr233 hS238 (hs117.up hz237) hs239) ?_
   rintro _ w241 ⟨rfl,hS242⟩
   refine ⟨_,rfl,?_⟩
   have hS243:=hb240 _ _ hS242
   refine sI 1 (iR p4_26 4 12::td119) 100 hp234 (fun hp246 => ?_) fun hp271 => ?_
   ·refine sR 18 td120 ?_
    refine r_isret (c:=p4_29) (by kernel_rfl) ?_
    have hS247:=hS243.drop
    have hS248:=hS247.drop
    have hS249:=hS248.drop
    have hS250:=hS249.drop
    have hS251:=hS250.drop
    have hS252:=hS251.drop
    have hS253:=hS252.drop
    have hS254:=hS253.drop
    have hS255:=hS254.drop
    have hS256:=hS255.drop
    have hS257:=hS256.drop
    have hS258:=hS257.drop
    have hS259:=hS258.drop
    have hS260:=hS259.drop
    have hS261:=hS260.drop
    have hS262:=hS261.drop
    have hS263:=hS262.drop
    have hS264:=hS263.drop
    have hS265:=hS264.drop
    have hS266:=hS265.drop
    have hS267:=hS266.drop
    have hS268:=hS267.drop
    have hS269:=hS268.less hz116
    refine rR (.bool false) Try.func4 ?_
    cases Option.some.inj hp246
    exact hR _ _ ⟨rfl,hS269⟩
   refine sR 2 (iR p4_26 6 10::td119) ?_
   obtain ⟨t272,hr273,hp274⟩:=bind_some' hp271
   refine rC (weirlaw14_num.ok hr273 hS243) ?_
   rintro _ w275 ⟨rfl,hS276⟩
   refine ⟨_,rfl,?_⟩
   refine sI 2 (iR p4_26 9 7::td119) 105 hp274 (fun hp279 => ?_) fun hp304 => ?_
   ·refine sR 13 td120 ?_
    refine r_isret (c:=p4_29) (by kernel_rfl) ?_
    have hS280:=hS276.drop
    have hS281:=hS280.drop
    have hS282:=hS281.drop
    have hS283:=hS282.drop
    have hS284:=hS283.drop
    have hS285:=hS284.drop
    have hS286:=hS285.drop
    have hS287:=hS286.drop
    have hS288:=hS287.drop
    have hS289:=hS288.drop
    have hS290:=hS289.drop
    have hS291:=hS290.drop
    have hS292:=hS291.drop
    have hS293:=hS292.drop
    have hS294:=hS293.drop
    have hS295:=hS294.drop
    have hS296:=hS295.drop
    have hS297:=hS296.drop
    have hS298:=hS297.drop
    have hS299:=hS298.drop
    have hS300:=hS299.drop
    have hS301:=hS300.drop
    have hS302:=hS301.less hz116
    refine rR (.bool false) Try.func4 ?_
    cases Option.some.inj hp279
    exact hR _ _ ⟨rfl,hS302⟩
   refine sR 2 (iR p4_26 11 5::td119) ?_
   refine rL1 36 (.tmp 10) 0 (hS276.blk 17 rfl) ?_
   refine sI 3 (.inRegion (opsOf p4_26) [15]::td119) 111 hp304 (fun hp307 => ?_) fun hp332 => ?_
   ·refine sR 7 td120 ?_
    refine r_isret (c:=p4_29) (by kernel_rfl) ?_
    have hS308:=hS276.drop
    have hS309:=hS308.drop
    have hS310:=hS309.drop
    have hS311:=hS310.drop
    have hS312:=hS311.drop
    have hS313:=hS312.drop
    have hS314:=hS313.drop
    have hS315:=hS314.drop
    have hS316:=hS315.drop
    have hS317:=hS316.drop
    have hS318:=hS317.drop
    have hS319:=hS318.drop
    have hS320:=hS319.drop
    have hS321:=hS320.drop
    have hS322:=hS321.drop
    have hS323:=hS322.drop
    have hS324:=hS323.drop
    have hS325:=hS324.drop
    have hS326:=hS325.drop
    have hS327:=hS326.drop
    have hS328:=hS327.drop
    have hS329:=hS328.drop
    have hS330:=hS329.less hz116
    refine rR (.bool false) Try.func4 ?_
    cases Option.some.inj hp307
    exact hR _ _ ⟨rfl,hS330⟩
   refine sR 11 td124 ?_
   have hS333:=hS276.drop
   have hS334:=hS333.drop
   have hS335:=hS334.drop
   have hS336:=hS335.drop
   have hS337:=hS336.drop
   have hS338:=hS337.drop
   have hS339:=hS338.drop
   have hS340:=hS339.drop
   have hS341:=hS340.drop
   have hS342:=hS341.pick1
   have hS343:=hS342.drop
   have hS344:=hS343.pick1
   have hS345:=hS344.drop
   have hS346:=hS345.pick1
   have hS347:=hS346.drop
   have hS348:=hS347.pick1
   have hS349:=hS348.drop
   have hS350:=hS349.pick2
   have hS351:=hS350.drop
   have hS352:=hS351.pick2
   have hS353:=hS352.drop
   have hS354:=hS353.pick3
   have hS355:=hS354.drop
   have hS356:=hS355.pick3
   have hS357:=hS356.drop
   have hS358:=hS357.pick3
   have hS359:=hS358.drop
   have hS360:=hS359.pick3
   have hS361:=hS360.drop
   obtain ⟨v362,hv363,hp364⟩:=bind_some' hp332
   have hq367 : ∀ x,Sum.inr x = v362 → x = q0:=by intro x hx; subst hx; simpa using hp364
   have J368 : ∀ (he370 : Sum.inl () = v362) (l369 : List Value) (w365 : World) (hS366 : St w0 Z115 (fs) w365),Runs Try.prog (fx 4) td121 (fill (mk 127 []) l369) w365 R:=by
    intro he370 l369 w365 hS366
    subst he370
    try dsimp only at hp364
    refine sR 4 [.code p4_32] ?_
    refine r_isret (c:=p4_32) (by kernel_rfl) ?_
    have hS371:=hS366.less hz116
    refine rR (.bool true) Try.func4 ?_
    cases Option.some.inj hp364
    exact hR _ _ ⟨rfl,hS371⟩
   have L382 : ∀ (t373 : Int) (e377 : Sum Unit Bool),weirlaw14_ExploreWay.l1 t91 t118 t203 t373 = some e377 → e377 = v362 → ∀ (l376 : List Value) (w374 : World) (hS375 : St w0 Z115 (xblk b40 36 ([.slice Q94 t91.length Q95])::xrow Q94 Q95 9 1 (t91.flatMap encS)::xrow Q119 Q120 9 1 (t118.flatMap encS)::fs) w374),Runs Try.prog (fx 4) td124 (fill (mk 127 [(10,.pointer (some ⟨b40,0,none⟩)),(15,.slice Q119 t118.length Q120),(19,.int .i64 t203),(21,.int .i64 t373)]) l376) w374 R:=by
    refine weirlaw14_ExploreWay.l1.partial_correctness t91 t118 t203 (fun t373 e377 => e377 = v362 → ∀ (l376 : List Value) (w374 : World) (hS375 : St w0 Z115 (xblk b40 36 ([.slice Q94 t91.length Q95])::xrow Q94 Q95 9 1 (t91.flatMap encS)::xrow Q119 Q120 9 1 (t118.flatMap encS)::fs) w374),Runs Try.prog (fx 4) td124 (fill (mk 127 [(10,.pointer (some ⟨b40,0,none⟩)),(15,.slice Q119 t118.length Q120),(19,.int .i64 t203),(21,.int .i64 t373)]) l376) w374 R) ?_
    intro rec381 ih380 t373 e377 hb379 he378 l376 w374 hS375
    have hq383 : ∀ x,Sum.inr x = e377 → x = q0:=fun x hx => hq367 x (hx.trans he378)
    refine sI 6 (.inRegion (opsOf (cd4 [1,1,1,1,1,1,1,1,1,1,1,1,1,0,1,0,0,0,0])) []::.code (cd4 [1,1,1,1,1,1,1,1,1,1,1,1,1,0,1,0,0,0,1])::.code (cd4 [1,1,1,1,1,1,1,1,1,1,1,1,1,0,1,0,0,1])::td123) 115 hb379 (fun hp386 => ?_) fun hp412 => ?_
    ·refine sR 6 (.code p4_36::.code (cd4 [1,1,1,1,1,1,1,1,1,1,1,1,1,0,1,0,0,1,0,0,1])::.inBlock 3::.code p4_38::td123) ?_
     refine r_quiet hS375 (c:=p4_36) (id:=24) (by kernel_rfl) (by kernel_rfl) (by kernel_rfl) (is:=[0,1,2,3,4,5,6,7,8]) (by kernel_rfl) ?_
     refine qL1 36 (.tmp 10) 0 (fun w hC => (hC.blk 0 rfl)) ?_
     refine qR 1 (rg 2 7) ?_
     obtain ⟨g387,hp388⟩:=ite_some hp386
     obtain ⟨b389,p390,hA391,-⟩:=(hS375.row 1 rfl).at_ len_encS (by omega) g387.1 g387.2
     refine q_indexAddr (c:=p4_36) (i:=2) (d:=(some 120)) (ty:=0) (t:=36) (e:=9) (n:=t91.length) (cp:=Q95) (sz:=1) (kk:=.i64) (x:=(.tmp 118)) (y:=(.tmp 119)) (b:=b389) (o':=p390) (j:=t373) (by kernel_rfl) (by kernel_rfl) (slv (by kernel_rfl) hA391) (by kernel_rfl) (by kernel_rfl) (by kernel_rfl) g387.1 g387.2 ?_
     refine qL1 9 (.tmp 120) 0 (fun w hC => ((hC.row 1 rfl).at2 hA391 len_encS (by omega) g387.1 g387.2)) ?_
     refine qR 2 [6,7,8] ?_
     obtain ⟨g393,hp394⟩:=ite_some hp388
     obtain ⟨b395,p396,hA397,-⟩:=(hS375.row 2 rfl).at_ len_encS (by omega) g393.1 g393.2
     refine q_indexAddr (c:=p4_36) (i:=6) (d:=(some 124)) (ty:=0) (t:=36) (e:=9) (n:=t118.length) (cp:=Q120) (sz:=1) (kk:=.i64) (x:=(.tmp 122)) (y:=(.tmp 123)) (b:=b395) (o':=p396) (j:=t373) (by kernel_rfl) (by kernel_rfl) (slv (by kernel_rfl) hA397) (by kernel_rfl) (by kernel_rfl) (by kernel_rfl) g393.1 g393.2 ?_
     refine qL1 9 (.tmp 124) 0 (fun w hC => ((hC.row 2 rfl).at2 hA397 len_encS (by omega) g393.1 g393.2)) ?_
     refine qI 1 [] 126 hp394 (fun hp401 => ?_) fun hp409 => ?_
     ·refine Qs.nil ?_
      intro w402 hS403
      refine sR 5 (.code p4_39::.inBlock 3::.code p4_38::td123) ?_
      refine r_isret (c:=p4_39) (by kernel_rfl) ?_
      have hS404:=hS403.drop
      have hS405:=hS404.drop
      have hS406:=hS405.drop
      have hS407:=hS406.less hz116
      refine rR (.bool false) Try.func4 ?_
      cases hq383 _ (Option.some.inj hp401)
      exact hR _ _ ⟨rfl,hS407⟩
     refine Qs.nil ?_
     intro w410 hS411
     refine sR 8 td123 ?_
     refine sR 1 td124 ?_
     exact rF _ (ih380 (IntKind.i64.wrap (t373 + 1)) _ hp409 he378 _ _ hS411)
    refine sR 3 td121 ?_
    have hS413:=hS375.drop
    have hS414:=hS413.drop
    have hS415:=hS414.drop
    exact rF _ (J368 ((Option.some.inj hp412).trans he378) _ _ hS415)
   have hS416:=hS361.pick1
   have hS417:=hS416.pick2
   exact rF _ (L382 0 _ hv363 rfl _ _ hS417)
  have L432 : ∀ (t418 : List ByteArray) (t422 : Int) (t423 : List (ByteArray × Int)) (e427 : ((List ByteArray) × (List (ByteArray × Int)))),weirlaw14_ExploreWay.l0 a0 a2 t418 t422 t423 = some e427 → e427 = v27 → ∀ (l426 : List Value) (A419 : Option Addr) (c420 : Nat) (w424 : World) (hS425 : St w0 Z (xblk b1 26 ([.slice y0 a0.Next.length y1,.slice y2 a0.End.length y3,.slice y4 a0.Value.length y5,.int .i64 a0.Start])::xblk b21 41 ([.map (some b16)])::xmap b16 (t423.map (kv Value.string (Value.int .i64)))::xrow A419 c420 9 1 (t418.flatMap encS)::fs) w424),Runs Try.prog (fx 4) td117 (fill (mk 127 [(1,.int .i64 a1),(2,.slice Aa2 a2.length ca2),(3,.pointer (some ⟨b1,0,none⟩)),(7,.pointer (some ⟨b21,0,none⟩)),(8,.slice A419 t418.length c420),(9,.int .i64 t422)]) l426) w424 R:=by
   refine weirlaw14_ExploreWay.l0.partial_correctness a0 a2 (fun t418 t422 t423 e427 => e427 = v27 → ∀ (l426 : List Value) (A419 : Option Addr) (c420 : Nat) (w424 : World) (hS425 : St w0 Z (xblk b1 26 ([.slice y0 a0.Next.length y1,.slice y2 a0.End.length y3,.slice y4 a0.Value.length y5,.int .i64 a0.Start])::xblk b21 41 ([.map (some b16)])::xmap b16 (t423.map (kv Value.string (Value.int .i64)))::xrow A419 c420 9 1 (t418.flatMap encS)::fs) w424),Runs Try.prog (fx 4) td117 (fill (mk 127 [(1,.int .i64 a1),(2,.slice Aa2 a2.length ca2),(3,.pointer (some ⟨b1,0,none⟩)),(7,.pointer (some ⟨b21,0,none⟩)),(8,.slice A419 t418.length c420),(9,.int .i64 t422)]) l426) w424 R) ?_
   intro rec431 ih430 t418 t422 t423 e427 hb429 he428 l426 A419 c420 w424 hS425
   refine sI 7 (iR p4_40 4 4::.code p4_41::.code p4_42::td116) 29 hb429 (fun hp435 => ?_) fun hp512 => ?_
   ·refine sI 3 (.inRegion (opsOf p4_40) [7]::.code p4_41::.code p4_42::td116) 32 hp435 (fun hp438 => ?_) fun hp511 => ?_
    ·refine sR 7 (.code p4_43::.code (cd4 [1,1,1,1,0,1,0,0,1,0,0,1])::td126) ?_
     refine r_quiet hS425 (c:=p4_43) (id:=8) (by kernel_rfl) (by kernel_rfl) (by kernel_rfl) (is:=[0,1,2,3,4,5,6,7,8,9,10,11,12,13,14]) (by kernel_rfl) ?_
     refine qR 2 (rg 2 13) ?_
     obtain ⟨g439,hp440⟩:=ite_some hp438
     obtain ⟨b441,p442,hA443,hc444⟩:=ha2.atF g439.1 g439.2
     refine q_indexAddr (c:=p4_43) (i:=2) (d:=(some 38)) (ty:=0) (t:=37) (e:=3) (n:=a2.length) (cp:=ca2) (sz:=1) (kk:=.i64) (x:=(.tmp 36)) (y:=(.tmp 37)) (b:=b441) (o':=p442) (j:=t422) (by kernel_rfl) (by kernel_rfl) (slv (by kernel_rfl) hA443) (by kernel_rfl) (by kernel_rfl) (by kernel_rfl) g439.1 g439.2 ?_
     refine qL1 3 (.tmp 38) 0 (fun w hC => (hc444.cells hC)) ?_
     refine qI 1 (rg 5 10) 40 hp440 (fun hp447 => ?_) fun hp508 => ?_
     ·refine qR 3 (rg 8 7) ?_
      obtain ⟨g448,hp449⟩:=ite_some hp447
      obtain ⟨b450,p451,hA452,hc453⟩:=ha2.atF g448.1 g448.2
      refine q_indexAddr (c:=p4_43) (i:=8) (d:=(some 44)) (ty:=0) (t:=37) (e:=3) (n:=a2.length) (cp:=ca2) (sz:=1) (kk:=.i64) (x:=(.tmp 42)) (y:=(.tmp 43)) (b:=b450) (o':=p451) (j:=t422) (by kernel_rfl) (by kernel_rfl) (slv (by kernel_rfl) hA452) (by kernel_rfl) (by kernel_rfl) (by kernel_rfl) g448.1 g448.2 ?_
      refine qL1 3 (.tmp 44) 0 (fun w hC => (hc453.cells hC)) ?_
      refine qR 1 (rg 11 4) ?_
      refine qL1 22 (.tmp 46) 0 (fun w hC => (hC.blk 0 rfl)) ?_
      refine qI 2 [14] 49 hp449 (fun hp456 => ?_) fun hp505 => ?_
      ·refine qR 1 [] ?_
       refine Qs.nil ?_
       intro w457 hS458
       refine sR 2 (.code p4_46::.code p4_47::td126) ?_
       refine r_drawn3 (C:=St w0 Z (xblk b1 26 ([.slice y0 a0.Next.length y1,.slice y2 a0.End.length y3,.slice y4 a0.Value.length y5,.int .i64 a0.Start])::xblk b21 41 ([.map (some b16)])::xmap b16 (t423.map (kv Value.string (Value.int .i64)))::xrow A419 c420 9 1 (t418.flatMap encS)::fs)) (c:=p4_46) (id:=9) (by kernel_rfl) (by kernel_rfl) 6 (Nat.le_of_ble_eq_true (by kernel_rfl)) (by kernel_rfl) (by kernel_rfl) (by kernel_rfl) (is:=[0,1,2,3,4,5]) (rest:=[6]) (by kernel_rfl) (by kernel_rfl) hS458.drew ?_
       refine qL1 41 (.tmp 7) 0 (fun w hC => (hC.blk 1 rfl)) ?_
       refine qR 2 [3,4,5] ?_
       obtain ⟨g459,hp460⟩:=ite_some hp456
       obtain ⟨b461,p462,hA463,hc464⟩:=ha2.atF g459.1 g459.2
       refine q_indexAddr (c:=(hd p4_46 6)) (i:=3) (d:=(some 54)) (ty:=0) (t:=37) (e:=3) (n:=a2.length) (cp:=ca2) (sz:=1) (kk:=.i64) (x:=(.tmp 52)) (y:=(.tmp 53)) (b:=b461) (o':=p462) (j:=t422) (by kernel_rfl) (by kernel_rfl) (slv (by kernel_rfl) hA463) (by kernel_rfl) (by kernel_rfl) (by kernel_rfl) g459.1 g459.2 ?_
       refine qL1 3 (.tmp 54) 0 (fun w hC => (hc464.cells hC)) ?_
       obtain ⟨t465,hr466,hp467⟩:=bind_some' hp460
       refine q_call1 (c:=(hd p4_46 6)) (i:=5) (d:=(some 56)) (v:=.string t465) (g:=13) (args:=#[.int .i64 (gt a2 t422)]) (by kernel_rfl) (by kernel_rfl) (by kernel_rfl) (by kernel_rfl) (fun w hC => by
        refine (weirlaw14_name.ok hr466 hC).mono ?_
        rintro e w2 ⟨rfl,h2⟩
        have hS468:=h2.pick3
        have hS469:=hS468.pick3
        have hS470:=hS469.pick3
        have hS471:=hS470.pick3
        exact ⟨rfl,hS471⟩) ?_
       refine Qs.nil ?_
       intro w472 hS473
       have hS474:=hS473.pick2
       refine r_mapUpdate (c:=p4_46) (i:=6) (d:=none) (ty:=0) (eK:=Value.string) (eV:=(Value.int .i64)) (dk:=.string) (b:=b16) (t:=41) (kt:=9) (et:=3) (x:=(.tmp 51)) (y:=(.tmp 56)) (z:=(.const (.int .i64 1))) (m:=t423) (kk:=t465) (v:=1) hS474 (by kernel_rfl) (by kernel_rfl) key_str (by kernel_rfl) (by kernel_rfl) (by kernel_rfl) (by kernel_rfl) (by kernel_rfl) ?_
       intro w475 hS476
       refine sR 5 (iR p4_47 3 6::td126) ?_
       obtain ⟨g477,hp478⟩:=ite_some hp467
       obtain ⟨b479,p480,hA481,hc482⟩:=ha2.atF g477.1 g477.2
       refine r_indexAddr (c:=p4_47) (i:=3) (d:=(some 60)) (ty:=0) (t:=37) (e:=3) (n:=a2.length) (cp:=ca2) (sz:=1) (kk:=.i64) (x:=(.tmp 58)) (y:=(.tmp 59)) (b:=b479) (o':=p480) (j:=t422) (by kernel_rfl) (by kernel_rfl) (slv (by kernel_rfl) hA481) (by kernel_rfl) (by kernel_rfl) (by kernel_rfl) g477.1 g477.2 ?_
       refine rL1 3 (.tmp 60) 0 (hc482.cells hS476) ?_
       obtain ⟨t483,hr484,hp485⟩:=bind_some' hp478
       refine rC (weirlaw14_name.ok hr484 hS476) ?_
       rintro _ w486 ⟨rfl,hS487⟩
       refine ⟨_,rfl,?_⟩
       refine r_lit (c:=p4_47) (i:=6) (d:=(some 63)) (ty:=36) (t:=36) (e:=9) (sz:=1) (n:=1) (parts:=#[(0,(.tmp 62))]) (vs:=[(0,.string t483)]) (z:=zeroOf Try.prog 9) (cs':=([t483] : List ByteArray).flatMap encS) hS487 (by kernel_rfl) (by kernel_rfl) (by kernel_rfl) (by kernel_rfl) (by kernel_rfl) (by decide) (by decide) (by kernel_rfl) rfl (Parts.cons (c:=[.string t483]) (by kernel_rfl) rfl Parts.nil) rfl ?_
       intro b489 w490 hS491
       have hS492:=hS491.pick4
       obtain ⟨g493,hp494⟩:=ite_some hp485
       refine r_append (c:=p4_47) (i:=7) (d:=(some 64)) (ty:=36) (enc:=encS) (e:=9) (u:=9) (t:=36) (t2:=36) (sz:=1) (cp:=c420) (A:=A419) (bytes:=16) (xs:=t418) (ys:=([t483] : List ByteArray)) (s:=(.tmp 57)) (x:=(.tmp 63)) (xv:=.slice (some ⟨b489,0,none⟩) ([t483] : List ByteArray).length 1) (info:=infoOf Try.prog 9) (z:=zeroOf Try.prog 9) (ycs:=([t483] : List ByteArray).flatMap encS) hS492 (by kernel_rfl) (by kernel_rfl) (by kernel_rfl) (by kernel_rfl) (by kernel_rfl) (.inl (by kernel_rfl)) (by kernel_rfl) (by kernel_rfl) (by kernel_rfl) (by kernel_rfl) (by kernel_rfl) (by omega) len_encS one_encS (src_row (hS492.row 1 rfl) (by omega) len_encS) rfl g493 (by omega) ?_
       intro A495 c496 w497 hS498
       refine sR 8 td116 ?_
       have hS500:=hS498.pick1
       have hS501:=hS500.drop
       have hS502:=hS501.pick1
       have hS503:=hS502.pick3
       have hS504:=hS503.pick3
       refine sR 1 td117 ?_
       exact rF _ (ih430 (t418 ++ ([t483] : List ByteArray)) (IntKind.i64.wrap (t422 + 1)) (mput t423 t465 1) _ hp494 he428 _ A495 c496 _ hS504)
      refine qR 1 [] ?_
      refine Qs.nil ?_
      intro w506 hS507
      refine sR 8 td116 ?_
      refine sR 1 td117 ?_
      exact rF _ (ih430 (id t418) (IntKind.i64.wrap (t422 + 1)) (id t423) _ hp505 he428 _ A419 c420 _ hS507)
     refine qR 10 [] ?_
     refine Qs.nil ?_
     intro w509 hS510
     refine sR 8 td116 ?_
     refine sR 1 td117 ?_
     exact rF _ (ih430 (id t418) (IntKind.i64.wrap (t422 + 1)) (id t423) _ hp508 he428 _ A419 c420 _ hS510)
    refine sR 4 td114 ?_
    exact rF _ (J37 t418 t423 ((Option.some.inj hp511).trans he428) _ A419 c420 _ hS425)
   refine sR 7 td114 ?_
   exact rF _ (J37 t418 t423 ((Option.some.inj hp512).trans he428) _ A419 c420 _ hS425)
  have hS514:=hS26.nilrow none 9 1
  have hS515:=hS514.pick2
  have hS516:=hS515.pick2
  have hS517:=hS516.pick3
  exact rF _ (L432 [] 0 ([] : List (ByteArray × Int)) _ hv28 rfl _ none 0 _ hS517)

end
end Go.Proofs.Ytfiamlhhhkiiaaa.K
