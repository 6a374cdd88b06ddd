/- The walk, part 3: each Go function as a plain Lean function, and that its call answers as that function says. No condition. -/
import Derived.Test.YtfiamlhhhkiiaaaE
import Derived.Test.YtfiamlhhhkiiaaaNS
import Derived.Test.YtfiamlhhhkiiaaaLS
import Derived.Test.YtfiamlhhhkiiaaaNG
import Derived.Test.YtfiamlhhhkiiaaaNP
import Derived.Test.YtfiamlhhhkiiaaaNM
import Derived.Test.YtfiamlhhhkiiaaaNQ
import Derived.Test.YtfiamlhhhkiiaaaNI
import Derived.Test.YtfiamlhhhkiiaaaNX
import Derived.Test.YtfiamlhhhkiiaaaNY
import Derived.Test.YtfiamlhhhkiiaaaNC
import Derived.Test.YtfiamlhhhkiiaaaNF
import Derived.Test.YtfiamlhhhkiiaaaNW
import Derived.Test.YtfiamlhhhkiiaaaNK
import Derived.Test.YtfiamlhhhkiiaaaND
import Derived.Test.YtfiamlhhhkiiaaaM2
set_option linter.unusedVariables false
set_option linter.unusedSimpArgs false
set_option maxRecDepth 100000
set_option synthInstance.maxSize 100000
set_option synthInstance.maxHeartbeats 4000000
namespace Go.Proofs.Ytfiamlhhhkiiaaa.K
open Go Go.RowKit
noncomputable section
set_option maxHeartbeats 16000000
variable {w0 : World} {Z : Zm} {fs : List XObj} {w : World}
noncomputable def cd12 (p : List Nat) : Code := sub (bodyOf Try.f12) p
abbrev p12_14:=cd12 [1,1,1,1,1,0,1,0,0]
abbrev p12_16:=cd12 [1,1,1,1,1,0,1,0,0,0]
abbrev p12_20:=cd12 [1,1,1,1,1,0,1,0,0,1,1,0,1,0]
abbrev p12_21:=cd12 [1,1,1,1,1,0,1,0,0,1,1,0,1,1]
abbrev p12_22:=cd12 [1,1,1,1,1,0,1,0,0,1,1,0,1,1,0,1]
abbrev p12_23:=cd12 [1,1,1,1,0,1,0,0,0]
abbrev p12_27:=cd12 [1,1,1,1,0,1,0,0,1,1,0,1,0]
abbrev p12_28:=cd12 [1,1,1,1,0,1,0,0,1,1,0,1,1]
abbrev p12_29:=cd12 [1,1,1,1,0,1,0,0,1,1,0,1,1,0,1]
abbrev p12_33:=cd12 [1,1,1,0,1,0,0,1,0,0]
abbrev td109:List Item:=[.code (cd12 [1,1,1,1])]
abbrev td110:List Item:=.inBlock 0::td109
abbrev td111:List Item:=.inLoop (cd12 [1,1,1,0,1,0,0])::td110
abbrev td112:List Item:=.code (cd12 [1,1,1,0,1,0,0])::td111
abbrev td113:List Item:=[.code (cd12 [1,1,1,1,1])]
abbrev td114:List Item:=.inBlock 2::td113
abbrev td115:List Item:=.inLoop (cd12 [1,1,1,1,0,1,0,0])::td114
abbrev td116:List Item:=.code (cd12 [1,1,1,1,0,1,0,0])::td115
abbrev td117:List Item:=[.code (cd12 [1,1,1,1,1,1])]
abbrev td118:List Item:=.inBlock 4::td117
abbrev td119:List Item:=.inLoop p12_14::td118
abbrev td120:List Item:=.code p12_14::td119
abbrev td121:List Item:=.inBlock 5::td119
abbrev td122:List Item:=.inBlock 3::td115
def weirlaw14_Book__within.l2 (t10 t43 : List (ByteArray × Int)) : Option (Sum Unit (Bool × Bool)) :=
  (rngM (fun (t68,t69) => (if (((mget t10 t68).getD (0 : Int)) == 0) = true then some (.inr (.inr ((false,false)))) else some (.inl ()))) (some (.inl ())) t43)
def weirlaw14_Book__within.l1 (t10 t100 : List (ByteArray × Int)) : Option (Sum Unit (Bool × Bool)) :=
  (rngM (fun (t124,t125) => (if (((mget t10 t124).getD (0 : Int)) == 0) = true then some (.inr (.inr ((false,false)))) else some (.inl ()))) (some (.inl ())) t100)
def weirlaw14_Book__within.l0 (a1 : List ByteArray) (t156 : Int) (t157 : List (ByteArray × Int)) : Option (List (ByteArray × Int)) :=
  (if (decide (t156 < (a1.length : Int))) = true then (if 0 ≤ t156 ∧ t156 < (a1.length : Int) then (weirlaw14_Book__within.l0 a1 (IntKind.i64.wrap (t156 + 1)) (mput t157 (gt a1 t156) 1)) else none) else some (t157))
 partial_fixpoint
def weirlaw14_Book__within.f (a0v_0m a0v_1m a0v_2m : List (ByteArray × Int)) (y28 : Bool) (a1 : List ByteArray) : Option (Bool × Bool) :=
  (if y28 = true then some ((false,true)) else (weirlaw14_Book__within.l0 a1 0 ([] : List (ByteArray × Int)) >>= (fun t10 => (weirlaw14_Book__within.l1 t10 a0v_0m >>= (fun | .inl () => (weirlaw14_Book__within.l2 t10 a0v_1m >>= (fun | .inl () => some ((true,false)) | .inr e => some e)) | .inr e => some e)))))
theorem weirlaw14_Book__within.ok {a0v_0m a0v_1m a0v_2m : List (ByteArray × Int)} {y28 : Bool} {a1 : List ByteArray} {ba0 y50 : Nat} {y51 y52 : Nat} {Aa1 : Option Addr} {ca1 : Nat} {q0 q1 : Bool} (hp0 : weirlaw14_Book__within.f a0v_0m a0v_1m a0v_2m y28 a1 = some (q0,q1)) (hS0 : St w0 Z (xblk ba0 49 ([.map (some y50),.map (some y51),.map (some y52),.bool y28])::xmap y50 (a0v_0m.map (kv Value.string (Value.int .i64)))::xmap y51 (a0v_1m.map (kv Value.string (Value.int .i64)))::xmap y52 (a0v_2m.map (kv Value.string (Value.int .i64)))::fs) w) (ha1 : SlZ (flat encS) 1 Z Aa1 ca1 a1) :
    Calls Try.prog 12 #[.pointer (some ⟨ba0,0,none⟩),.slice Aa1 a1.length ca1] w (fun e w' => e = .returned (.bool q0) ∧ St w0 Z (xblk ba0 49 ([.map (some y50),.map (some y51),.map (some y52),.bool q1])::xmap y50 (a0v_0m.map (kv Value.string (Value.int .i64)))::xmap y51 (a0v_1m.map (kv Value.string (Value.int .i64)))::xmap y52 (a0v_2m.map (kv Value.string (Value.int .i64)))::fs) w'):=by
  refine calls_abs ?_; intro R hR
  unfold weirlaw14_Book__within.f at hp0
  refine calls_of_runs (fn:=Try.f12) (c:=cd12 []) Try.func12 (by kernel_rfl) (al:=[.pointer (some ⟨ba0,0,none⟩),.slice Aa1 a1.length ca1]) rfl (n:=49) rfl ?_
  refine sR 10 [.inRegion (opsOf (cd12 [1,0,0])) [3],.code (cd12 [1,0,1]),.code (cd12 [1,1])] ?_
  refine rL1 4 (.tmp 11) 3 (hS0.blk 0 rfl) ?_
  refine sR 1 [.code (cd12 [1,0,1]),.code (cd12 [1,1])] ?_
  cases y28
  ·have hp1:=ite_f hp0 rfl
   refine sR 4 [.inRegion (opsOf (cd12 [1,1,0])) [0,1],.code (cd12 [1,1,1])] ?_
   refine r_makeMap (c:=(cd12 [1,1,0])) (i:=0) (d:=(some 13)) (ty:=41) (t:=41) hS0 (by kernel_rfl) (by kernel_rfl) ?_
   intro b2 w3 hS4
   have hS6 : St w0 Z (xmap b2 (([] : List (ByteArray × Int)).map (kv Value.string (Value.int .i64)))::xblk ba0 49 ([.map (some y50),.map (some y51),.map (some y52),.bool false])::xmap y50 (a0v_0m.map (kv Value.string (Value.int .i64)))::xmap y51 (a0v_1m.map (kv Value.string (Value.int .i64)))::xmap y52 (a0v_2m.map (kv Value.string (Value.int .i64)))::fs) w3:=hS4
   refine sR 9 td112 ?_
   obtain ⟨v7,hv8,hp9⟩:=bind_some' hp1
   have J13 : ∀ (t10 : List (ByteArray × Int)) (he15 : t10 = v7) (l14 : List Value) (w11 : World) (hS12 : St w0 Z (xblk ba0 49 ([.map (some y50),.map (some y51),.map (some y52),.bool false])::xmap y50 (a0v_0m.map (kv Value.string (Value.int .i64)))::xmap y51 (a0v_1m.map (kv Value.string (Value.int .i64)))::xmap y52 (a0v_2m.map (kv Value.string (Value.int .i64)))::xmap b2 (t10.map (kv Value.string (Value.int .i64)))::fs) w11),Runs Try.prog (fx 12) td109 (fill (mk 51 [(0,.pointer (some ⟨ba0,0,none⟩)),(5,.map (some b2))]) l14) w11 R:=by
    intro t10 he15 l14 w11 hS12
    subst he15
    try dsimp only at hp9
    refine sR 6 (.inRegion (opsOf (cd12 [1,1,1,1,0,0])) [3,4]::.code (cd12 [1,1,1,1,0,1])::td113) ?_
    refine rL1 41 (.tmp 27) 0 (hS12.blk 0 rfl) ?_
    have hS16:=hS12.pick1
    refine r_rangeM (c:=(cd12 [1,1,1,1,0,0])) (i:=4) (d:=(some 29)) (ty:=0) (t:=41) (kt:=9) (et:=3) (x:=(.tmp 28)) hS16 (by kernel_rfl) (by kernel_rfl) (by kernel_rfl) (by kernel_rfl) ?_
    intro it17 w18 hS19
    refine sR 3 td116 ?_
    obtain ⟨v20,hv21,hp22⟩:=bind_some' hp9
    have hq25 : ∀ x,Sum.inr x = v20 → x = (q0,q1):=by intro x hx; subst hx; simpa using hp22
    have J26 : ∀ (he28 : Sum.inl () = v20) (l27 : List Value) (w23 : World) (hS24 : St w0 Z (xblk ba0 49 ([.map (some y50),.map (some y51),.map (some y52),.bool false])::xmap y50 (a0v_0m.map (kv Value.string (Value.int .i64)))::xmap y51 (a0v_1m.map (kv Value.string (Value.int .i64)))::xmap y52 (a0v_2m.map (kv Value.string (Value.int .i64)))::xmap b2 (t10.map (kv Value.string (Value.int .i64)))::fs) w23),Runs Try.prog (fx 12) td113 (fill (mk 51 [(0,.pointer (some ⟨ba0,0,none⟩)),(5,.map (some b2))]) l27) w23 R:=by
     intro he28 l27 w23 hS24
     subst he28
     try dsimp only at hp22
     refine sR 6 (.inRegion (opsOf (cd12 [1,1,1,1,1,0,0])) [3,4]::.code (cd12 [1,1,1,1,1,0,1])::td117) ?_
     refine rL1 41 (.tmp 40) 1 (hS24.blk 0 rfl) ?_
     have hS29:=hS24.pick2
     refine r_rangeM (c:=(cd12 [1,1,1,1,1,0,0])) (i:=4) (d:=(some 42)) (ty:=0) (t:=41) (kt:=9) (et:=3) (x:=(.tmp 41)) hS29 (by kernel_rfl) (by kernel_rfl) (by kernel_rfl) (by kernel_rfl) ?_
     intro it30 w31 hS32
     refine sR 3 td120 ?_
     obtain ⟨v33,hv34,hp35⟩:=bind_some' hp22
     have hq38 : ∀ x,Sum.inr x = v33 → x = (q0,q1):=by intro x hx; subst hx; simpa using hp35
     have J39 : ∀ (he41 : Sum.inl () = v33) (l40 : List Value) (w36 : World) (hS37 : St w0 Z (xblk ba0 49 ([.map (some y50),.map (some y51),.map (some y52),.bool false])::xmap y50 (a0v_0m.map (kv Value.string (Value.int .i64)))::xmap y51 (a0v_1m.map (kv Value.string (Value.int .i64)))::xmap y52 (a0v_2m.map (kv Value.string (Value.int .i64)))::fs) w36),Runs Try.prog (fx 12) td117 (fill (mk 51 []) l40) w36 R:=by
      intro he41 l40 w36 hS37
      subst he41
      try dsimp only at hp35
      refine sR 4 [.code (cd12 [1,1,1,1,1,1,1])] ?_
      refine rR (.bool true) Try.func12 ?_
      cases Option.some.inj hp35
      exact hR _ _ ⟨rfl,hS37⟩
     have L51 : ∀ (t43 : List (ByteArray × Int)) (e47 : Sum Unit (Bool × Bool)),weirlaw14_Book__within.l2 t10 t43 = some e47 → e47 = v33 → ∀ (l46 : List Value) (w44 : World) (hS45 : St w0 Z (xmap b2 (t10.map (kv Value.string (Value.int .i64)))::xmr y51 it30 (a0v_1m.map (kv Value.string (Value.int .i64))) (t43.map (kv Value.string (Value.int .i64))) none::xblk ba0 49 ([.map (some y50),.map (some y51),.map (some y52),.bool false])::xmap y50 (a0v_0m.map (kv Value.string (Value.int .i64)))::xmap y52 (a0v_2m.map (kv Value.string (Value.int .i64)))::fs) w44),Runs Try.prog (fx 12) td120 (fill (mk 51 [(5,.map (some b2)),(42,.pointer (some ⟨it30,0,none⟩))]) l46) w44 R:=by
      refine rng_ind ?_
      intro t43 ih50 e47 hb49 he48 l46 w44 hS45
      unfold weirlaw14_Book__within.l2 at hb49
      have hq52 : ∀ x,Sum.inr x = e47 → x = (q0,q1):=fun x hx => hq38 x (hx.trans he48)
      refine sR 2 (.inRegion (opsOf p12_16) [0,1]::.code (cd12 [1,1,1,1,1,0,1,0,0,1])::td119) ?_
      have hS53:=hS45.pick1
      refine r_nextM (c:=p12_16) (i:=0) (d:=(some 43)) (ty:=0) (x:=(.tmp 42)) hS53 (by kernel_rfl) (by kernel_rfl) (by kernel_rfl) ?_ ?_
      ·intro hn54; obtain rfl:=List.map_eq_nil_iff.1 hn54
       have hp55:=rng_nil hb49
       have hS56:=hS53.mrShut
       refine sR 5 td117 ?_
       have hS57:=hS56.pick1
       have hS58:=hS57.drop
       have hS59:=hS58.pick3
       have hS60:=hS59.pick1
       have hS61:=hS60.pick3
       have hS62:=hS61.pick3
       exact rF _ (J39 ((Option.some.inj hp55).trans he48) _ _ hS62)
      intro j63 kx64 hj65 w66 hS67; obtain ⟨⟨t68,t69⟩,hj70,rfl,hl71⟩:=kv_at hj65; rw [kv_erase] at hS67
      obtain ⟨q72,hp73,hq74⟩:=rng_step hb49 hj70; have hq75:=rng_out hq74; try dsimp only at hp73
      have hS76 : St w0 Z (xmr y51 it30 (a0v_1m.map (kv Value.string (Value.int .i64))) ((t43.eraseIdx j63).map (kv Value.string (Value.int .i64))) (some (kv Value.string (Value.int .i64) (t68,t69)))::xmap b2 (t10.map (kv Value.string (Value.int .i64)))::xblk ba0 49 ([.map (some y50),.map (some y51),.map (some y52),.bool false])::xmap y50 (a0v_0m.map (kv Value.string (Value.int .i64)))::xmap y52 (a0v_2m.map (kv Value.string (Value.int .i64)))::fs) w66:=hS67
      refine sR 8 (.inRegion (opsOf (cd12 [1,1,1,1,1,0,1,0,0,1,1,0,0])) [0,1,2]::.code (cd12 [1,1,1,1,1,0,1,0,0,1,1,0,1])::td121) ?_
      refine rV (.entry (.tmp 42)) (.tuple #[.string t68,.int .i64 t69]) (fun o ho _ => x_entryM (hS76.at 0 rfl) (by kernel_rfl) ho) ?_
      refine sR 7 (.inRegion (opsOf p12_20) [2,3]::.code p12_21::td121) ?_
      refine rV (.lookup 41 (.tmp 47) (.tmp 48) false) (.int .i64 ((mget t10 t68).getD (0 : Int))) (fun o ho _ => x_lookup1 (eK:=Value.string) (eV:=(Value.int .i64)) (dk:=.string) (b:=b2) (t:=41) (kt:=9) (et:=3) (m:=t10) (kk:=t68) (z:=(0 : Int)) (hS76.at 1 rfl) key_str (by kernel_rfl) (by kernel_rfl) (by kernel_rfl) (by kernel_rfl) (by kernel_rfl) ho) ?_
      refine sI 1 (.inRegion (opsOf p12_20) []::.code p12_21::td121) 50 hp73 (fun hp79 => ?_) fun hp88 => ?_
      ·refine sR 6 (.code p12_22::td121) ?_
       refine r_isret (c:=p12_22) (by kernel_rfl) ?_
       have hS80:=hS76.mrShut
       have hS81:=hS80.pick1
       have hS82:=hS81.drop
       have hS83:=hS82.pick3
       have hS84:=hS83.pick1
       have hS85:=hS84.pick3
       have hS86:=hS85.pick3
       refine rR (.bool false) Try.func12 ?_
       cases hq52 _ (hq75 _ (Option.some.inj hp79))
       exact hR _ _ ⟨rfl,hS86⟩
      refine sR 4 td119 ?_
      have hS89:=hS76.mrOn
      have hS90:=hS89.pick4
      have hS91:=hS90.pick4
      have hS92:=hS91.pick4
      have hS93:=hS92.pick3
      have hS94:=hS93.pick4
      refine sR 1 td120 ?_
      exact rF _ (ih50 j63 hl71 _ (rng_on hq74 (Option.some.inj hp88)) he48 _ _ hS94)
     have hS95:=hS32.pick3
     have hS96:=hS95.pick3
     have hS97:=hS96.pick3
     have hS98:=hS97.pick3
     have hS99:=hS98.pick4
     exact rF _ (L51 a0v_1m _ hv34 rfl _ _ hS99)
    have L108 : ∀ (t100 : List (ByteArray × Int)) (e104 : Sum Unit (Bool × Bool)),weirlaw14_Book__within.l1 t10 t100 = some e104 → e104 = v20 → ∀ (l103 : List Value) (w101 : World) (hS102 : St w0 Z (xblk ba0 49 ([.map (some y50),.map (some y51),.map (some y52),.bool false])::xmr y50 it17 (a0v_0m.map (kv Value.string (Value.int .i64))) (t100.map (kv Value.string (Value.int .i64))) none::xmap y51 (a0v_1m.map (kv Value.string (Value.int .i64)))::xmap y52 (a0v_2m.map (kv Value.string (Value.int .i64)))::xmap b2 (t10.map (kv Value.string (Value.int .i64)))::fs) w101),Runs Try.prog (fx 12) td116 (fill (mk 51 [(0,.pointer (some ⟨ba0,0,none⟩)),(5,.map (some b2)),(29,.pointer (some ⟨it17,0,none⟩))]) l103) w101 R:=by
     refine rng_ind ?_
     intro t100 ih107 e104 hb106 he105 l103 w101 hS102
     unfold weirlaw14_Book__within.l1 at hb106
     have hq109 : ∀ x,Sum.inr x = e104 → x = (q0,q1):=fun x hx => hq25 x (hx.trans he105)
     refine sR 2 (.inRegion (opsOf p12_23) [0,1]::.code (cd12 [1,1,1,1,0,1,0,0,1])::td115) ?_
     have hS110:=hS102.pick1
     refine r_nextM (c:=p12_23) (i:=0) (d:=(some 30)) (ty:=0) (x:=(.tmp 29)) hS110 (by kernel_rfl) (by kernel_rfl) (by kernel_rfl) ?_ ?_
     ·intro hn111; obtain rfl:=List.map_eq_nil_iff.1 hn111
      have hp112:=rng_nil hb106
      have hS113:=hS110.mrShut
      refine sR 5 td113 ?_
      have hS114:=hS113.pick4
      have hS115:=hS114.pick4
      have hS116:=hS115.pick4
      have hS117:=hS116.pick3
      have hS118:=hS117.pick4
      exact rF _ (J26 ((Option.some.inj hp112).trans he105) _ _ hS118)
     intro j119 kx120 hj121 w122 hS123; obtain ⟨⟨t124,t125⟩,hj126,rfl,hl127⟩:=kv_at hj121; rw [kv_erase] at hS123
     obtain ⟨q128,hp129,hq130⟩:=rng_step hb106 hj126; have hq131:=rng_out hq130; try dsimp only at hp129
     have hS132 : St w0 Z (xmr y50 it17 (a0v_0m.map (kv Value.string (Value.int .i64))) ((t100.eraseIdx j119).map (kv Value.string (Value.int .i64))) (some (kv Value.string (Value.int .i64) (t124,t125)))::xblk ba0 49 ([.map (some y50),.map (some y51),.map (some y52),.bool false])::xmap y51 (a0v_1m.map (kv Value.string (Value.int .i64)))::xmap y52 (a0v_2m.map (kv Value.string (Value.int .i64)))::xmap b2 (t10.map (kv Value.string (Value.int .i64)))::fs) w122:=hS123
     refine sR 8 (.inRegion (opsOf (cd12 [1,1,1,1,0,1,0,0,1,1,0,0])) [0,1,2]::.code (cd12 [1,1,1,1,0,1,0,0,1,1,0,1])::td122) ?_
     refine rV (.entry (.tmp 29)) (.tuple #[.string t124,.int .i64 t125]) (fun o ho _ => x_entryM (hS132.at 0 rfl) (by kernel_rfl) ho) ?_
     refine sR 7 (.inRegion (opsOf p12_27) [2,3]::.code p12_28::td122) ?_
     refine rV (.lookup 41 (.tmp 34) (.tmp 35) false) (.int .i64 ((mget t10 t124).getD (0 : Int))) (fun o ho _ => x_lookup1 (eK:=Value.string) (eV:=(Value.int .i64)) (dk:=.string) (b:=b2) (t:=41) (kt:=9) (et:=3) (m:=t10) (kk:=t124) (z:=(0 : Int)) (hS132.at 4 rfl) key_str (by kernel_rfl) (by kernel_rfl) (by kernel_rfl) (by kernel_rfl) (by kernel_rfl) ho) ?_
     refine sI 1 (.inRegion (opsOf p12_27) []::.code p12_28::td122) 37 hp129 (fun hp135 => ?_) fun hp144 => ?_
     ·refine sR 6 (.code p12_29::td122) ?_
      refine r_isret (c:=p12_29) (by kernel_rfl) ?_
      have hS136:=hS132.mrShut
      have hS137:=hS136.pick4
      have hS138:=hS137.drop
      have hS139:=hS138.pick3
      have hS140:=hS139.pick3
      have hS141:=hS140.pick2
      have hS142:=hS141.pick3
      refine rR (.bool false) Try.func12 ?_
      cases hq109 _ (hq131 _ (Option.some.inj hp135))
      exact hR _ _ ⟨rfl,hS142⟩
     refine sR 4 td115 ?_
     have hS145:=hS132.mrOn
     have hS146:=hS145.pick4
     have hS147:=hS146.pick4
     have hS148:=hS147.pick4
     have hS149:=hS148.pick3
     have hS150:=hS149.pick4
     refine sR 1 td116 ?_
     exact rF _ (ih107 j119 hl127 _ (rng_on hq130 (Option.some.inj hp144)) he105 _ _ hS150)
    have hS151:=hS19.pick4
    have hS152:=hS151.pick4
    have hS153:=hS152.pick4
    have hS154:=hS153.pick3
    have hS155:=hS154.pick4
    exact rF _ (L108 a0v_0m _ hv21 rfl _ _ hS155)
   have L166 : ∀ (t156 : Int) (t157 : List (ByteArray × Int)) (e161 : (List (ByteArray × Int))),weirlaw14_Book__within.l0 a1 t156 t157 = some e161 → e161 = v7 → ∀ (l160 : List Value) (w158 : World) (hS159 : St w0 Z (xblk ba0 49 ([.map (some y50),.map (some y51),.map (some y52),.bool false])::xmap y50 (a0v_0m.map (kv Value.string (Value.int .i64)))::xmap y51 (a0v_1m.map (kv Value.string (Value.int .i64)))::xmap y52 (a0v_2m.map (kv Value.string (Value.int .i64)))::xmap b2 (t157.map (kv Value.string (Value.int .i64)))::fs) w158),Runs Try.prog (fx 12) td112 (fill (mk 51 [(0,.pointer (some ⟨ba0,0,none⟩)),(1,.slice Aa1 a1.length ca1),(5,.map (some b2)),(6,.int .i64 t156)]) l160) w158 R:=by
    refine weirlaw14_Book__within.l0.partial_correctness a1 (fun t156 t157 e161 => e161 = v7 → ∀ (l160 : List Value) (w158 : World) (hS159 : St w0 Z (xblk ba0 49 ([.map (some y50),.map (some y51),.map (some y52),.bool false])::xmap y50 (a0v_0m.map (kv Value.string (Value.int .i64)))::xmap y51 (a0v_1m.map (kv Value.string (Value.int .i64)))::xmap y52 (a0v_2m.map (kv Value.string (Value.int .i64)))::xmap b2 (t157.map (kv Value.string (Value.int .i64)))::fs) w158),Runs Try.prog (fx 12) td112 (fill (mk 51 [(0,.pointer (some ⟨ba0,0,none⟩)),(1,.slice Aa1 a1.length ca1),(5,.map (some b2)),(6,.int .i64 t156)]) l160) w158 R) ?_
    intro rec165 ih164 t156 t157 e161 hb163 he162 l160 w158 hS159
    refine sI 7 (.inRegion (opsOf (cd12 [1,1,1,0,1,0,0,0,0])) []::.code (cd12 [1,1,1,0,1,0,0,0,1])::.code (cd12 [1,1,1,0,1,0,0,1])::td111) 17 hb163 (fun hp169 => ?_) fun hp183 => ?_
    ·refine sR 9 (.inRegion (opsOf p12_33) [3,4,5]::.inBlock 1::.code (cd12 [1,1,1,0,1,0,0,1,1])::td111) ?_
     obtain ⟨g170,hp171⟩:=ite_some hp169
     obtain ⟨b172,p173,hA174,hc175⟩:=ha1.atF g170.1 g170.2
     refine r_indexAddr (c:=p12_33) (i:=3) (d:=(some 23)) (ty:=0) (t:=36) (e:=9) (n:=a1.length) (cp:=ca1) (sz:=1) (kk:=.i64) (x:=(.tmp 21)) (y:=(.tmp 22)) (b:=b172) (o':=p173) (j:=t156) (by kernel_rfl) (by kernel_rfl) (slv (by kernel_rfl) hA174) (by kernel_rfl) (by kernel_rfl) (by kernel_rfl) g170.1 g170.2 ?_
     refine rL1 9 (.tmp 23) 0 (hc175.cells hS159) ?_
     have hS176:=hS159.pick4
     refine r_mapUpdate (c:=p12_33) (i:=5) (d:=none) (ty:=0) (eK:=Value.string) (eV:=(Value.int .i64)) (dk:=.string) (b:=b2) (t:=41) (kt:=9) (et:=3) (x:=(.tmp 20)) (y:=(.tmp 24)) (z:=(.const (.int .i64 1))) (m:=t157) (kk:=(gt a1 t156)) (v:=1) hS176 (by kernel_rfl) (by kernel_rfl) key_str (by kernel_rfl) (by kernel_rfl) (by kernel_rfl) (by kernel_rfl) (by kernel_rfl) ?_
     intro w177 hS178
     refine sR 7 td111 ?_
     have hS179:=hS178.pick4
     have hS180:=hS179.pick4
     have hS181:=hS180.pick4
     have hS182:=hS181.pick4
     refine sR 1 td112 ?_
     exact rF _ (ih164 (IntKind.i64.wrap (t156 + 1)) (mput t157 (gt a1 t156) 1) _ hp171 he162 _ _ hS182)
    refine sR 3 td109 ?_
    exact rF _ (J13 t157 ((Option.some.inj hp183).trans he162) _ _ hS159)
   have hS184:=hS6.pick4
   have hS185:=hS184.pick4
   have hS186:=hS185.pick4
   have hS187:=hS186.pick4
   exact rF _ (L166 0 ([] : List (ByteArray × Int)) _ hv8 rfl _ _ hS187)
  have hp188:=ite_t hp0 rfl
  refine sR 5 [.code (cd12 [1,0,1,0,1]),.code (cd12 [1,1])] ?_
  refine rR (.bool false) Try.func12 ?_
  cases Option.some.inj hp188
  exact hR _ _ ⟨rfl,hS0⟩

noncomputable def cd53 (p : List Nat) : Code := sub (bodyOf Try.f53) p
abbrev p53_2:=cd53 [1,0,0]
abbrev p53_14:=cd53 [1,1,0,1,0,0,1,0,0,0]
abbrev p53_15:=cd53 [1,1,0,1,0,0,1,0,0,1]
abbrev td123:List Item:=[.code (cd53 [1,1])]
abbrev td124:List Item:=.code (cd53 [1,0,1])::td123
abbrev td125:List Item:=[.code (cd53 [1,1,1])]
abbrev td126:List Item:=.inBlock 0::td125
abbrev td127:List Item:=.inLoop (cd53 [1,1,0,1,0,0])::td126
abbrev td128:List Item:=.code (cd53 [1,1,0,1,0,0])::td127
abbrev td129:List Item:=.code (cd53 [1,1,0,1,0,0,1,1])::td127
abbrev td130:List Item:=.inBlock 1::td129
def weirref10_Check.l0 (a0 : api_Final) (t27 : Int) : Option (Sum Unit Int) :=
  (if (decide (t27 < 48)) = true then (if 0 ≤ t27 ∧ t27 < 48 then (if ((vget a0.V t27) != 0) = true then some (.inr (4)) else (weirref10_Check.l0 a0 (IntKind.i64.wrap (t27 + 1)))) else none) else some (.inl ()))
 partial_fixpoint
def weirref10_Check.f (a0 : api_Final) : Option Int :=
  (if (decide (a0.N < 0)) = true then some (4) else (if (decide (a0.N > 48)) = true then some (4) else (weirref10_Check.l0 a0 a0.N >>= (fun | .inl () => some (0) | .inr e => some e))))
theorem weirref10_Check.ok {a0 : api_Final} {q0 : Int} (hp0 : weirref10_Check.f a0 = some q0) (hS0 : St w0 Z (fs) w) :
    Calls Try.prog 53 #[.agg (enc_api_Final a0).toArray] w (fun e w' => e = .returned (.int .i64 q0) ∧ St w0 Z (fs) w'):=by
  refine calls_abs ?_; intro R hR
  unfold weirref10_Check.f at hp0
  refine calls_of_runs (fn:=Try.f53) (c:=cd53 []) Try.func53 (by kernel_rfl) (al:=[.agg (enc_api_Final a0).toArray]) rfl (n:=22) rfl ?_
  refine sR 2 [.inRegion (opsOf (cd53 [0])) [0,1],.code (cd53 [1])] ?_
  refine r_box (c:=(cd53 [0])) (i:=0) (d:=(some 1)) (ty:=0) (x:=(.tmp 0)) (v:=.agg (enc_api_Final a0).toArray) (t:=84) (cs:=enc_api_Final a0) hS0 (by kernel_rfl) (by kernel_rfl) (by kernel_rfl) (by kernel_rfl) ?_
  intro b1 w2 hS3
  refine sR 6 (iR p53_2 1 7::td124) ?_
  refine rL1 3 (.tmp 4) 0 (hS3.blk 0 rfl) ?_
  refine sI 1 (iR p53_2 3 5::td124) 6 hp0 (fun hp7 => ?_) fun hp10 => ?_
  ·refine sR 11 (.code (cd53 [1,0,1,0,1])::td123) ?_
   have hS8:=hS3.drop
   refine rR (.int .i64 4) Try.func53 ?_
   cases Option.some.inj hp7
   exact hR _ _ ⟨rfl,hS8⟩
  refine sR 2 (.inRegion (opsOf p53_2) [5,6,7]::td124) ?_
  refine rL1 3 (.tmp 8) 0 (hS3.blk 0 rfl) ?_
  refine sI 1 (.inRegion (opsOf p53_2) [7]::td124) 10 hp10 (fun hp13 => ?_) fun hp16 => ?_
  ·refine sR 7 (.code (cd53 [1,0,1,0,1])::td123) ?_
   have hS14:=hS3.drop
   refine rR (.int .i64 4) Try.func53 ?_
   cases Option.some.inj hp13
   exact hR _ _ ⟨rfl,hS14⟩
  refine sR 8 (.inRegion (opsOf (cd53 [1,1,0,0])) [1,2]::.code (cd53 [1,1,0,1])::td125) ?_
  refine rL1 3 (.tmp 12) 0 (hS3.blk 0 rfl) ?_
  refine sR 4 td128 ?_
  obtain ⟨v17,hv18,hp19⟩:=bind_some' hp16
  have hq22 : ∀ x,Sum.inr x = v17 → x = q0:=by intro x hx; subst hx; simpa using hp19
  have J23 : ∀ (he25 : Sum.inl () = v17) (l24 : List Value) (w20 : World) (hS21 : St w0 Z (fs) w20),Runs Try.prog (fx 53) td125 (fill (mk 23 []) l24) w20 R:=by
   intro he25 l24 w20 hS21
   subst he25
   try dsimp only at hp19
   refine sR 4 [.code (cd53 [1,1,1,1])] ?_
   refine rR (.int .i64 0) Try.func53 ?_
   cases Option.some.inj hp19
   exact hR _ _ ⟨rfl,hS21⟩
  have L36 : ∀ (t27 : Int) (e31 : Sum Unit Int),weirref10_Check.l0 a0 t27 = some e31 → e31 = v17 → ∀ (l30 : List Value) (w28 : World) (hS29 : St w0 Z (xblk b1 84 (enc_api_Final a0)::fs) w28),Runs Try.prog (fx 53) td128 (fill (mk 23 [(1,.pointer (some ⟨b1,0,none⟩)),(3,.int .i64 t27)]) l30) w28 R:=by
   refine weirref10_Check.l0.partial_correctness a0 (fun t27 e31 => e31 = v17 → ∀ (l30 : List Value) (w28 : World) (hS29 : St w0 Z (xblk b1 84 (enc_api_Final a0)::fs) w28),Runs Try.prog (fx 53) td128 (fill (mk 23 [(1,.pointer (some ⟨b1,0,none⟩)),(3,.int .i64 t27)]) l30) w28 R) ?_
   intro rec35 ih34 t27 e31 hb33 he32 l30 w28 hS29
   have hq37 : ∀ x,Sum.inr x = e31 → x = q0:=fun x hx => hq22 x (hx.trans he32)
   refine sI 5 (.inRegion (opsOf (cd53 [1,1,0,1,0,0,0,0])) []::.code (cd53 [1,1,0,1,0,0,0,1])::.code (cd53 [1,1,0,1,0,0,1])::td127) 15 hb33 (fun hp40 => ?_) fun hp49 => ?_
   ·refine sR 9 (.inRegion (opsOf p53_14) [2,3,4]::.code p53_15::td130) ?_
    obtain ⟨g41,hp42⟩:=ite_some hp40
    refine r_indexArr (c:=p53_14) (i:=2) (d:=(some 20)) (ty:=0) (t:=82) (e:=2) (sz:=1) (kk:=.i64) (x:=(.tmp 19)) (y:=(.tmp 18)) (b:=b1) (o':=1) (n:=48) (j:=t27) (by kernel_rfl) (by kernel_rfl) (by kernel_rfl) (by kernel_rfl) (by kernel_rfl) (by kernel_rfl) g41.1 g41.2 ?_
    refine rL1 2 (.tmp 20) 0 (cells_vget (sub_api_Final_V (hS29.blk 0 rfl)) (len_encI .i64) g41.1 g41.2) ?_
    refine sI 1 (.inRegion (opsOf p53_14) []::.code p53_15::td130) 22 hp42 (fun hp45 => ?_) fun hp48 => ?_
    ·refine sR 6 (.code (cd53 [1,1,0,1,0,0,1,0,0,1,0,1])::td130) ?_
     have hS46:=hS29.drop
     refine rR (.int .i64 4) Try.func53 ?_
     cases hq37 _ (Option.some.inj hp45)
     exact hR _ _ ⟨rfl,hS46⟩
    refine sR 9 td127 ?_
    refine sR 1 td128 ?_
    exact rF _ (ih34 (IntKind.i64.wrap (t27 + 1)) _ hp48 he32 _ _ hS29)
   refine sR 3 td125 ?_
   have hS50:=hS29.drop
   exact rF _ (J23 ((Option.some.inj hp49).trans he32) _ _ hS50)
  exact rF _ (L36 a0.N _ hv18 rfl _ _ hS3)

noncomputable def cd54 (p : List Nat) : Code := sub (bodyOf Try.f54) p
abbrev p54_2:=cd54 [1,0,0]
abbrev p54_5:=cd54 [1,0,1,0,0,0]
abbrev p54_16:=cd54 [1,1,0,1,0,0,1,0,0,0,0]
abbrev p54_18:=cd54 [1,1,0,1,0,0,1,0,0,1]
abbrev p54_20:=cd54 [1,1,0,1,0,0,1,0,0,0,1,0,1]
abbrev p54_21:=cd54 [1,1,0,1,0,0,1,0,0,1,0]
abbrev p54_23:=cd54 [1,1,0,1,0,0,1,0,0,1,1,0,1]
abbrev td131:List Item:=[.code (cd54 [1,1])]
abbrev td132:List Item:=.code (cd54 [1,0,1])::td131
abbrev td133:List Item:=.code (cd54 [1,0,1,0,1])::td131
abbrev td134:List Item:=.code (cd54 [1,0,1,0,0,1])::td133
abbrev td135:List Item:=[.code (cd54 [1,1,1])]
abbrev td136:List Item:=.inBlock 0::td135
abbrev td137:List Item:=.inLoop (cd54 [1,1,0,1,0,0])::td136
abbrev td138:List Item:=.code (cd54 [1,1,0,1,0,0])::td137
abbrev td139:List Item:=.code (cd54 [1,1,0,1,0,0,1,1])::td137
abbrev td140:List Item:=.inBlock 1::td139
def weirref10_Compare.l0 (a0 a1 : api_Final) (t33 : Int) : Option (Sum Unit Int) :=
  (if (decide (t33 < 48)) = true then (if 0 ≤ t33 ∧ t33 < 48 then (if 0 ≤ t33 ∧ t33 < 48 then (if (decide ((vget a0.V t33) < (vget a1.V t33))) = true then some (.inr ((-1))) else (if 0 ≤ t33 ∧ t33 < 48 then (if 0 ≤ t33 ∧ t33 < 48 then (if (decide ((vget a0.V t33) > (vget a1.V t33))) = true then some (.inr (1)) else (weirref10_Compare.l0 a0 a1 (IntKind.i64.wrap (t33 + 1)))) else none) else none)) else none) else none) else some (.inl ()))
 partial_fixpoint
def weirref10_Compare.f (a0 a1 : api_Final) : Option Int :=
  (if (a0.N != a1.N) = true then (if (decide (a0.N < a1.N)) = true then some ((-1)) else some (1)) else (weirref10_Compare.l0 a0 a1 0 >>= (fun | .inl () => some (0) | .inr e => some e)))
theorem weirref10_Compare.ok {a0 a1 : api_Final} {q0 : Int} (hp0 : weirref10_Compare.f a0 a1 = some q0) (hS0 : St w0 Z (fs) w) :
    Calls Try.prog 54 #[.agg (enc_api_Final a0).toArray,.agg (enc_api_Final a1).toArray] w (fun e w' => e = .returned (.int .i64 q0) ∧ St w0 Z (fs) w'):=by
  refine calls_abs ?_; intro R hR
  unfold weirref10_Compare.f at hp0
  refine calls_of_runs (fn:=Try.f54) (c:=cd54 []) Try.func54 (by kernel_rfl) (al:=[.agg (enc_api_Final a0).toArray,.agg (enc_api_Final a1).toArray]) rfl (n:=36) rfl ?_
  refine sR 2 [.inRegion (opsOf (cd54 [0])) [0,1,2],.code (cd54 [1])] ?_
  refine r_box (c:=(cd54 [0])) (i:=0) (d:=(some 2)) (ty:=0) (x:=(.tmp 0)) (v:=.agg (enc_api_Final a0).toArray) (t:=84) (cs:=enc_api_Final a0) hS0 (by kernel_rfl) (by kernel_rfl) (by kernel_rfl) (by kernel_rfl) ?_
  intro b1 w2 hS3
  refine r_box (c:=(cd54 [0])) (i:=1) (d:=(some 3)) (ty:=0) (x:=(.tmp 1)) (v:=.agg (enc_api_Final a1).toArray) (t:=84) (cs:=enc_api_Final a1) hS3 (by kernel_rfl) (by kernel_rfl) (by kernel_rfl) (by kernel_rfl) ?_
  intro b5 w6 hS7
  refine sR 6 (iR p54_2 1 4::td132) ?_
  refine rL1 3 (.tmp 6) 0 (hS7.blk 1 rfl) ?_
  refine sR 1 (.inRegion (opsOf p54_2) [3,4]::td132) ?_
  refine rL1 3 (.tmp 8) 0 (hS7.blk 0 rfl) ?_
  refine sI 1 (.inRegion (opsOf p54_2) []::td132) 10 hp0 (fun hp11 => ?_) fun hp22 => ?_
  ·refine sR 6 (iR p54_5 1 4::td134) ?_
   refine rL1 3 (.tmp 11) 0 (hS7.blk 1 rfl) ?_
   refine sR 1 (.inRegion (opsOf p54_5) [3,4]::td134) ?_
   refine rL1 3 (.tmp 13) 0 (hS7.blk 0 rfl) ?_
   refine sI 1 (.inRegion (opsOf p54_5) []::td134) 15 hp11 (fun hp14 => ?_) fun hp18 => ?_
   ·refine sR 6 (.code (cd54 [1,0,1,0,0,1,0,1])::td133) ?_
    have hS15:=hS7.drop
    have hS16:=hS15.drop
    refine rR (.int .i64 (-1)) Try.func54 ?_
    cases Option.some.inj hp14
    exact hR _ _ ⟨rfl,hS16⟩
   refine sR 7 (.code (cd54 [1,0,1,0,1,1])::td131) ?_
   have hS19:=hS7.drop
   have hS20:=hS19.drop
   refine rR (.int .i64 1) Try.func54 ?_
   cases Option.some.inj hp18
   exact hR _ _ ⟨rfl,hS20⟩
  refine sR 10 td138 ?_
  obtain ⟨v23,hv24,hp25⟩:=bind_some' hp22
  have hq28 : ∀ x,Sum.inr x = v23 → x = q0:=by intro x hx; subst hx; simpa using hp25
  have J29 : ∀ (he31 : Sum.inl () = v23) (l30 : List Value) (w26 : World) (hS27 : St w0 Z (fs) w26),Runs Try.prog (fx 54) td135 (fill (mk 38 []) l30) w26 R:=by
   intro he31 l30 w26 hS27
   subst he31
   try dsimp only at hp25
   refine sR 4 [.code (cd54 [1,1,1,1])] ?_
   refine rR (.int .i64 0) Try.func54 ?_
   cases Option.some.inj hp25
   exact hR _ _ ⟨rfl,hS27⟩
  have L42 : ∀ (t33 : Int) (e37 : Sum Unit Int),weirref10_Compare.l0 a0 a1 t33 = some e37 → e37 = v23 → ∀ (l36 : List Value) (w34 : World) (hS35 : St w0 Z (xblk b1 84 (enc_api_Final a0)::xblk b5 84 (enc_api_Final a1)::fs) w34),Runs Try.prog (fx 54) td138 (fill (mk 38 [(2,.pointer (some ⟨b1,0,none⟩)),(3,.pointer (some ⟨b5,0,none⟩)),(5,.int .i64 t33)]) l36) w34 R:=by
   refine weirref10_Compare.l0.partial_correctness a0 a1 (fun t33 e37 => e37 = v23 → ∀ (l36 : List Value) (w34 : World) (hS35 : St w0 Z (xblk b1 84 (enc_api_Final a0)::xblk b5 84 (enc_api_Final a1)::fs) w34),Runs Try.prog (fx 54) td138 (fill (mk 38 [(2,.pointer (some ⟨b1,0,none⟩)),(3,.pointer (some ⟨b5,0,none⟩)),(5,.int .i64 t33)]) l36) w34 R) ?_
   intro rec41 ih40 t33 e37 hb39 he38 l36 w34 hS35
   have hq43 : ∀ x,Sum.inr x = e37 → x = q0:=fun x hx => hq28 x (hx.trans he38)
   refine sI 5 (.inRegion (opsOf (cd54 [1,1,0,1,0,0,0,0])) []::.code (cd54 [1,1,0,1,0,0,0,1])::.code (cd54 [1,1,0,1,0,0,1])::td137) 17 hb39 (fun hp46 => ?_) fun hp77 => ?_
   ·refine sR 7 (.code p54_16::.code (cd54 [1,1,0,1,0,0,1,0,0,0,1])::.code p54_18::td140) ?_
    refine r_quiet hS35 (c:=p54_16) (id:=8) (by kernel_rfl) (by kernel_rfl) (by kernel_rfl) (is:=[0,1,2,3,4,5,6,7,8]) (by kernel_rfl) ?_
    refine qR 2 (rg 2 7) ?_
    obtain ⟨g47,hp48⟩:=ite_some hp46
    refine q_indexArr (c:=p54_16) (i:=2) (d:=(some 22)) (ty:=0) (t:=82) (e:=2) (sz:=1) (kk:=.i64) (x:=(.tmp 21)) (y:=(.tmp 20)) (b:=b1) (o':=1) (n:=48) (j:=t33) (by kernel_rfl) (by kernel_rfl) (by kernel_rfl) (by kernel_rfl) (by kernel_rfl) (by kernel_rfl) g47.1 g47.2 ?_
    refine qL1 2 (.tmp 22) 0 (fun w hC => (cells_vget (sub_api_Final_V (hC.blk 0 rfl)) (len_encI .i64) g47.1 g47.2)) ?_
    refine qR 2 [6,7,8] ?_
    obtain ⟨g49,hp50⟩:=ite_some hp48
    refine q_indexArr (c:=p54_16) (i:=6) (d:=(some 26)) (ty:=0) (t:=82) (e:=2) (sz:=1) (kk:=.i64) (x:=(.tmp 25)) (y:=(.tmp 24)) (b:=b5) (o':=1) (n:=48) (j:=t33) (by kernel_rfl) (by kernel_rfl) (by kernel_rfl) (by kernel_rfl) (by kernel_rfl) (by kernel_rfl) g49.1 g49.2 ?_
    refine qL1 2 (.tmp 26) 0 (fun w hC => (cells_vget (sub_api_Final_V (hC.blk 1 rfl)) (len_encI .i64) g49.1 g49.2)) ?_
    refine qI 1 [] 28 hp50 (fun hp53 => ?_) fun hp59 => ?_
    ·refine Qs.nil ?_
     intro w54 hS55
     refine sR 5 (.code p54_20::.code p54_18::td140) ?_
     refine r_isret (c:=p54_20) (by kernel_rfl) ?_
     have hS56:=hS55.drop
     have hS57:=hS56.drop
     refine rR (.int .i64 (-1)) Try.func54 ?_
     cases hq43 _ (Option.some.inj hp53)
     exact hR _ _ ⟨rfl,hS57⟩
    refine Qs.nil ?_
    intro w60 hS61
    refine sR 3 (.code p54_21::.code (cd54 [1,1,0,1,0,0,1,0,0,1,1])::td140) ?_
    refine r_quiet hS61 (c:=p54_21) (id:=10) (by kernel_rfl) (by kernel_rfl) (by kernel_rfl) (is:=[0,1,2,3,4,5,6,7,8]) (by kernel_rfl) ?_
    refine qR 2 (rg 2 7) ?_
    obtain ⟨g62,hp63⟩:=ite_some hp59
    refine q_indexArr (c:=p54_21) (i:=2) (d:=(some 31)) (ty:=0) (t:=82) (e:=2) (sz:=1) (kk:=.i64) (x:=(.tmp 30)) (y:=(.tmp 29)) (b:=b1) (o':=1) (n:=48) (j:=t33) (by kernel_rfl) (by kernel_rfl) (by kernel_rfl) (by kernel_rfl) (by kernel_rfl) (by kernel_rfl) g62.1 g62.2 ?_
    refine qL1 2 (.tmp 31) 0 (fun w hC => (cells_vget (sub_api_Final_V (hC.blk 0 rfl)) (len_encI .i64) g62.1 g62.2)) ?_
    refine qR 2 [6,7,8] ?_
    obtain ⟨g64,hp65⟩:=ite_some hp63
    refine q_indexArr (c:=p54_21) (i:=6) (d:=(some 35)) (ty:=0) (t:=82) (e:=2) (sz:=1) (kk:=.i64) (x:=(.tmp 34)) (y:=(.tmp 33)) (b:=b5) (o':=1) (n:=48) (j:=t33) (by kernel_rfl) (by kernel_rfl) (by kernel_rfl) (by kernel_rfl) (by kernel_rfl) (by kernel_rfl) g64.1 g64.2 ?_
    refine qL1 2 (.tmp 35) 0 (fun w hC => (cells_vget (sub_api_Final_V (hC.blk 1 rfl)) (len_encI .i64) g64.1 g64.2)) ?_
    refine qI 1 [] 37 hp65 (fun hp68 => ?_) fun hp74 => ?_
    ·refine Qs.nil ?_
     intro w69 hS70
     refine sR 5 (.code p54_23::td140) ?_
     refine r_isret (c:=p54_23) (by kernel_rfl) ?_
     have hS71:=hS70.drop
     have hS72:=hS71.drop
     refine rR (.int .i64 1) Try.func54 ?_
     cases hq43 _ (Option.some.inj hp68)
     exact hR _ _ ⟨rfl,hS72⟩
    refine Qs.nil ?_
    intro w75 hS76
    refine sR 8 td137 ?_
    refine sR 1 td138 ?_
    exact rF _ (ih40 (IntKind.i64.wrap (t33 + 1)) _ hp74 he38 _ _ hS76)
   refine sR 3 td135 ?_
   have hS78:=hS35.drop
   have hS79:=hS78.drop
   exact rF _ (J29 ((Option.some.inj hp77).trans he38) _ _ hS79)
  have hS80:=hS7.pick1
  exact rF _ (L42 0 _ hv24 rfl _ _ hS80)

noncomputable def cd43 (p : List Nat) : Code := sub (bodyOf Try.f43) p
abbrev p43_6:=cd43 [1,1,0,1,0,0,1,0,0,0,0]
abbrev p43_7:=cd43 [1,1,0,1,0,0,1,0,0,0,1]
abbrev p43_8:=cd43 [1,1,0,1,0,0,1,0,0,1]
abbrev p43_10:=cd43 [1,1,0,1,0,0,1,0,0,1,1,0,0,0]
abbrev p43_12:=cd43 [1,1,0,1,0,0,1,0,0,1,1,1,0,0]
abbrev p43_15:=cd43 [1,1,0,1,0,0,1,0,0,1,1,1,1,0]
abbrev p43_17:=cd43 [1,1,0,1,0,0,1,0,0,1,1,1,1,1,0]
abbrev p43_18:=cd43 [1,1,0,1,0,0,1,0,0,1,1,1,1,1,1]
abbrev p43_19:=cd43 [1,1,0,1,0,0,1,0,0,1,1,0,0,0,0,0]
abbrev td141:List Item:=[.code (cd43 [1,1,1])]
abbrev td142:List Item:=.inBlock 0::td141
abbrev td143:List Item:=.inLoop (cd43 [1,1,0,1,0,0])::td142
abbrev td144:List Item:=.code (cd43 [1,1,0,1,0,0])::td143
abbrev td145:List Item:=.code (cd43 [1,1,0,1,0,0,1,1])::td143
abbrev td146:List Item:=.inBlock 1::td145
abbrev td147:List Item:=.code (cd43 [1,1,0,1,0,0,1,0,0,1,1,1])::td146
abbrev td148:List Item:=.inBlock 2::td147
abbrev td149:List Item:=.inLoop p43_10::td148
abbrev td150:List Item:=.code p43_10::td149
abbrev td151:List Item:=.code (cd43 [1,1,0,1,0,0,1,0,0,1,1,1,1])::td146
def weirref10_Sort.l1 (a0 t14 : List api_Final) (t18 t142 : Int) : Option Int :=
  (if (decide (t142 > 0)) = true then (if 0 ≤ (IntKind.i64.wrap (t142 - 1)) ∧ (IntKind.i64.wrap (t142 - 1)) < (t14.length : Int) then (if 0 ≤ t18 ∧ t18 < (a0.length : Int) then (weirref10_Compare.f (gt t14 (IntKind.i64.wrap (t142 - 1))) (gt a0 t18) >>= (fun t167 => (if (decide (t167 > 0)) = true then (weirref10_Sort.l1 a0 t14 t18 (IntKind.i64.wrap (t142 - 1))) else some (t142)))) else none) else none) else some (t142))
 partial_fixpoint
def weirref10_Sort.l0 (a0 t14 : List api_Final) (t18 : Int) : Option (List api_Final) :=
  (if (decide (t18 < (a0.length : Int))) = true then (if 0 ≤ t18 ∧ t18 < (a0.length : Int) then (weirref10_Check.f (gt a0 t18) >>= (fun t37 => (if (t37 != 0) = true then (weirref10_Sort.l0 a0 (id t14) (IntKind.i64.wrap (t18 + 1))) else (weirref10_Sort.l1 a0 t14 t18 (t14.length : Int) >>= (fun t49 => (((if (decide (t49 > 0)) = true then (if 0 ≤ (IntKind.i64.wrap (t49 - 1)) ∧ (IntKind.i64.wrap (t49 - 1)) < (t14.length : Int) then (if 0 ≤ t18 ∧ t18 < (a0.length : Int) then (if (decide ((gt t14 (IntKind.i64.wrap (t49 - 1))) = (gt a0 t18))) = true then ((weirref10_Sort.l0 a0 (id t14) (IntKind.i64.wrap (t18 + 1))) >>= fun e => some (.inr (e))) else some (.inl ())) else none) else none) else some (.inl ())) : Option (Sum Unit (List api_Final))) >>= (fun | .inl () => (if (t14.length + ([(⟨0,(Vector.replicate 48 0)⟩ : api_Final)] : List api_Final).length) * 392 ≤ 140737488355328 then (if 0 ≤ (IntKind.i64.wrap (t49 + 1)) ∧ (IntKind.i64.wrap (t49 + 1)) ≤ ((t14 ++ ([(⟨0,(Vector.replicate 48 0)⟩ : api_Final)] : List api_Final)).length : Int) then (if 0 ≤ t49 ∧ t49 ≤ ((t14 ++ ([(⟨0,(Vector.replicate 48 0)⟩ : api_Final)] : List api_Final)).length : Int) then (if ((IntKind.i64.wrap (t49 + 1)).toNat) + ((t14 ++ ([(⟨0,(Vector.replicate 48 0)⟩ : api_Final)] : List api_Final)).length - (IntKind.i64.wrap (t49 + 1)).toNat) ≤ (t14 ++ ([(⟨0,(Vector.replicate 48 0)⟩ : api_Final)] : List api_Final)).length ∧ t49.toNat + ((t14 ++ ([(⟨0,(Vector.replicate 48 0)⟩ : api_Final)] : List api_Final)).length - t49.toNat) ≤ (t14 ++ ([(⟨0,(Vector.replicate 48 0)⟩ : api_Final)] : List api_Final)).length then (if 0 ≤ t18 ∧ t18 < (a0.length : Int) then (if 0 ≤ t49 ∧ t49 < ((copyv (t14 ++ ([(⟨0,(Vector.replicate 48 0)⟩ : api_Final)] : List api_Final)) ((IntKind.i64.wrap (t49 + 1)).toNat) ((t14 ++ ([(⟨0,(Vector.replicate 48 0)⟩ : api_Final)] : List api_Final)).length - (IntKind.i64.wrap (t49 + 1)).toNat) (((t14 ++ ([(⟨0,(Vector.replicate 48 0)⟩ : api_Final)] : List api_Final)).drop t49.toNat).take ((t14 ++ ([(⟨0,(Vector.replicate 48 0)⟩ : api_Final)] : List api_Final)).length - t49.toNat))).length : Int) then (weirref10_Sort.l0 a0 (setl (copyv (t14 ++ ([(⟨0,(Vector.replicate 48 0)⟩ : api_Final)] : List api_Final)) ((IntKind.i64.wrap (t49 + 1)).toNat) ((t14 ++ ([(⟨0,(Vector.replicate 48 0)⟩ : api_Final)] : List api_Final)).length - (IntKind.i64.wrap (t49 + 1)).toNat) (((t14 ++ ([(⟨0,(Vector.replicate 48 0)⟩ : api_Final)] : List api_Final)).drop t49.toNat).take ((t14 ++ ([(⟨0,(Vector.replicate 48 0)⟩ : api_Final)] : List api_Final)).length - t49.toNat))) t49 (gt a0 t18)) (IntKind.i64.wrap (t18 + 1))) else none) else none) else none) else none) else none) else none) | .inr e => some e))))))) else none) else some (t14))
 partial_fixpoint
def weirref10_Sort.f (a0 : List api_Final) : Option (List api_Final) :=
  (weirref10_Sort.l0 a0 [] 0 >>= (fun t4 => some (t4)))
theorem weirref10_Sort.ok {a0 : List api_Final} {Aa0 : Option Addr} {ca0 : Nat} {q0 : List api_Final} (hp0 : weirref10_Sort.f a0 = some q0) (hS0 : St w0 Z (fs) w) (ha0 : SlZ (flat enc_api_Final) 49 Z Aa0 ca0 a0) :
    Calls Try.prog 43 #[.slice Aa0 a0.length ca0] w (fun e w' => ∃ (QA0 : Option Addr) (Qc0 : Nat),e = .returned (.slice QA0 q0.length Qc0) ∧ St w0 Z (xrow QA0 Qc0 84 49 (q0.flatMap enc_api_Final)::fs) w'):=by
  refine calls_abs ?_; intro R hR
  unfold weirref10_Sort.f at hp0
  refine calls_of_runs (fn:=Try.f43) (c:=cd43 []) Try.func43 (by kernel_rfl) (al:=[.slice Aa0 a0.length ca0]) rfl (n:=70) rfl ?_
  refine sR 15 td144 ?_
  obtain ⟨v1,hv2,hp3⟩:=bind_some' hp0
  have J10 : ∀ (t4 : List api_Final) (he12 : t4 = v1) (l11 : List Value) (A5 : Option Addr) (c6 : Nat) (w8 : World) (hS9 : St w0 Z (xrow A5 c6 84 49 (t4.flatMap enc_api_Final)::fs) w8),Runs Try.prog (fx 43) td141 (fill (mk 71 [(3,.slice A5 t4.length c6)]) l11) w8 R:=by
   intro t4 he12 l11 A5 c6 w8 hS9
   subst he12
   try dsimp only at hp3
   refine sR 5 [.code (cd43 [1,1,1,1])] ?_
   refine rR (.slice A5 t4.length c6) Try.func43 ?_
   cases Option.some.inj hp3
   exact hR _ _ ⟨A5,c6,rfl,hS9⟩
  have L27 : ∀ (t14 : List api_Final) (t18 : Int) (e22 : (List api_Final)),weirref10_Sort.l0 a0 t14 t18 = some e22 → e22 = v1 → ∀ (l21 : List Value) (A15 : Option Addr) (c16 : Nat) (w19 : World) (hS20 : St w0 Z (xrow A15 c16 84 49 (t14.flatMap enc_api_Final)::fs) w19),Runs Try.prog (fx 43) td144 (fill (mk 71 [(0,.slice Aa0 a0.length ca0),(3,.slice A15 t14.length c16),(4,.int .i64 t18)]) l21) w19 R:=by
   refine weirref10_Sort.l0.partial_correctness a0 (fun t14 t18 e22 => e22 = v1 → ∀ (l21 : List Value) (A15 : Option Addr) (c16 : Nat) (w19 : World) (hS20 : St w0 Z (xrow A15 c16 84 49 (t14.flatMap enc_api_Final)::fs) w19),Runs Try.prog (fx 43) td144 (fill (mk 71 [(0,.slice Aa0 a0.length ca0),(3,.slice A15 t14.length c16),(4,.int .i64 t18)]) l21) w19 R) ?_
   intro rec26 ih25 t14 t18 e22 hb24 he23 l21 A15 c16 w19 hS20
   refine sI 7 (.inRegion (opsOf (cd43 [1,1,0,1,0,0,0,0])) []::.code (cd43 [1,1,0,1,0,0,0,1])::.code (cd43 [1,1,0,1,0,0,1])::td143) 9 hb24 (fun hp30 => ?_) fun hp181 => ?_
   ·refine sR 10 (iR p43_6 2 4::.code p43_7::.code p43_8::td146) ?_
    obtain ⟨g31,hp32⟩:=ite_some hp30
    obtain ⟨b33,p34,hA35,hc36⟩:=ha0.atF g31.1 g31.2
    refine r_indexAddr (c:=p43_6) (i:=2) (d:=(some 14)) (ty:=0) (t:=39) (e:=84) (n:=a0.length) (cp:=ca0) (sz:=49) (kk:=.i64) (x:=(.tmp 12)) (y:=(.tmp 13)) (b:=b33) (o':=p34) (j:=t18) (by kernel_rfl) (by kernel_rfl) (slv (by kernel_rfl) hA35) (by kernel_rfl) (by kernel_rfl) (by kernel_rfl) g31.1 g31.2 ?_
    refine rL 84 (.tmp 14) (loads_agg (hc36.cells hS20) (by kernel_rfl) (lenK (len_api_Final _) (by kernel_rfl))) ?_
    obtain ⟨t37,hr38,hp39⟩:=bind_some' hp32
    refine rC (weirref10_Check.ok hr38 hS20) ?_
    rintro _ w40 ⟨rfl,hS41⟩
    refine ⟨_,rfl,?_⟩
    refine sI 1 (.inRegion (opsOf p43_6) []::.code p43_7::.code p43_8::td146) 17 hp39 (fun hp44 => ?_) fun hp45 => ?_
    ·refine sR 8 td143 ?_
     refine sR 1 td144 ?_
     exact rF _ (ih25 (id t14) (IntKind.i64.wrap (t18 + 1)) _ hp44 he23 _ A15 c16 _ hS41)
    refine sR 12 td150 ?_
    obtain ⟨v46,hv47,hp48⟩:=bind_some' hp45
    have J52 : ∀ (t49 : Int) (he54 : t49 = v46) (l53 : List Value) (w50 : World) (hS51 : St w0 Z (xrow A15 c16 84 49 (t14.flatMap enc_api_Final)::fs) w50),Runs Try.prog (fx 43) td147 (fill (mk 71 [(0,.slice Aa0 a0.length ca0),(3,.slice A15 t14.length c16),(4,.int .i64 t18),(5,.int .i64 t49)]) l53) w50 R:=by
     intro t49 he54 l53 w50 hS51
     subst he54
     try dsimp only at hp48
     refine sR 2 (.code p43_12::.code (cd43 [1,1,0,1,0,0,1,0,0,1,1,1,0,1])::td151) ?_
     obtain ⟨v55,hv56,hp57⟩:=bind_some' hp48
     have hq60 : ∀ x,Sum.inr x = v55 → x = e22:=by intro x hx; subst hx; simpa using hp57
     have J61 : ∀ (he63 : Sum.inl () = v55) (l62 : List Value) (w58 : World) (hS59 : St w0 Z (xrow A15 c16 84 49 (t14.flatMap enc_api_Final)::fs) w58),Runs Try.prog (fx 43) td151 (fill (mk 71 [(0,.slice Aa0 a0.length ca0),(3,.slice A15 t14.length c16),(4,.int .i64 t18),(5,.int .i64 t49)]) l62) w58 R:=by
      intro he63 l62 w58 hS59
      subst he63
      try dsimp only at hp57
      refine sR 3 (iR p43_15 1 4::.code (cd43 [1,1,0,1,0,0,1,0,0,1,1,1,1,1])::td146) ?_
      refine rV (.build 84 #[]) (.agg (enc_api_Final (⟨0,(Vector.replicate 48 0)⟩ : api_Final)).toArray) (fun o ho _ => x_build (t:=84) (c:=(enc_api_Final (⟨0,(Vector.replicate 48 0)⟩ : api_Final) : List Value).toArray) (ps:=#[]) Try.underlying84 hz_84 hp_84 (by kernel_rfl) ho) ?_
      refine r_lit (c:=p43_15) (i:=2) (d:=(some 53)) (ty:=39) (t:=39) (e:=84) (sz:=49) (n:=1) (parts:=#[(0,(.tmp 52))]) (vs:=[(0,.agg (enc_api_Final (⟨0,(Vector.replicate 48 0)⟩ : api_Final)).toArray)]) (z:=zeroOf Try.prog 84) (cs':=([(⟨0,(Vector.replicate 48 0)⟩ : api_Final)] : List api_Final).flatMap enc_api_Final) hS59 (by kernel_rfl) (by kernel_rfl) (by kernel_rfl) (by kernel_rfl) (by kernel_rfl) (by decide) (by decide) (by kernel_rfl) rfl (Parts.cons (c:=enc_api_Final (⟨0,(Vector.replicate 48 0)⟩ : api_Final)) (by kernel_rfl) (len_api_Final _) Parts.nil) rfl ?_
      intro b65 w66 hS67
      have hS68:=hS67.pick1
      obtain ⟨g69,hp70⟩:=ite_some hp57
      refine r_append (c:=p43_15) (i:=3) (d:=(some 54)) (ty:=39) (enc:=enc_api_Final) (e:=84) (u:=84) (t:=39) (t2:=39) (sz:=49) (cp:=c16) (A:=A15) (bytes:=392) (xs:=t14) (ys:=([(⟨0,(Vector.replicate 48 0)⟩ : api_Final)] : List api_Final)) (s:=(.tmp 51)) (x:=(.tmp 53)) (xv:=.slice (some ⟨b65,0,none⟩) ([(⟨0,(Vector.replicate 48 0)⟩ : api_Final)] : List api_Final).length 1) (info:=infoOf Try.prog 84) (z:=zeroOf Try.prog 84) (ycs:=([(⟨0,(Vector.replicate 48 0)⟩ : api_Final)] : List api_Final).flatMap enc_api_Final) hS68 (by kernel_rfl) (by kernel_rfl) (by kernel_rfl) (by kernel_rfl) (by kernel_rfl) (.inl (by kernel_rfl)) (by kernel_rfl) (by kernel_rfl) (by kernel_rfl) (by kernel_rfl) (by kernel_rfl) (by omega) len_api_Final one_api_Final (src_row (hS68.row 1 rfl) (by omega) len_api_Final) rfl g69 (by omega) ?_
      intro A71 c72 w73 hS74
      refine sR 3 (.code p43_17::.code p43_18::td146) ?_
      generalize hg77 : (xrow (some ⟨b65,0,none⟩) 1 84 49 (([(⟨0,(Vector.replicate 48 0)⟩ : api_Final)] : List api_Final).flatMap enc_api_Final)::fs) = gs76 at hS74
      obtain ⟨g78,hp79⟩:=ite_some hp70
      obtain ⟨g85,hp86⟩:=ite_some hp79
      obtain ⟨g92,hp93⟩:=ite_some hp86
      refine r_drawnF (X:=Unit) (c:=p43_17) (id:=11) (C0:=fun w' => St w0 Z (xrow A71 c72 84 49 ((t14 ++ ([(⟨0,(Vector.replicate 48 0)⟩ : api_Final)] : List api_Final)).flatMap enc_api_Final)::gs76) w') (C1:=fun _ w' => St w0 Z (xrow A71 c72 84 49 ((copyv (t14 ++ ([(⟨0,(Vector.replicate 48 0)⟩ : api_Final)] : List api_Final)) ((IntKind.i64.wrap (t49 + 1)).toNat) ((t14 ++ ([(⟨0,(Vector.replicate 48 0)⟩ : api_Final)] : List api_Final)).length - (IntKind.i64.wrap (t49 + 1)).toNat) (((t14 ++ ([(⟨0,(Vector.replicate 48 0)⟩ : api_Final)] : List api_Final)).drop t49.toNat).take ((t14 ++ ([(⟨0,(Vector.replicate 48 0)⟩ : api_Final)] : List api_Final)).length - t49.toNat))).flatMap enc_api_Final)::gs76) w') (vs:=[.slice A71 (t14 ++ ([(⟨0,(Vector.replicate 48 0)⟩ : api_Final)] : List api_Final)).length c72,.int .i64 t49,.int .i64 (IntKind.i64.wrap (t49 + 1)),.slice (vA A71 c72 ((IntKind.i64.wrap (t49 + 1)).toNat) 49) ((t14 ++ ([(⟨0,(Vector.replicate 48 0)⟩ : api_Final)] : List api_Final)).length - (IntKind.i64.wrap (t49 + 1)).toNat) (c72 - ((IntKind.i64.wrap (t49 + 1)).toNat)),.slice A71 (t14 ++ ([(⟨0,(Vector.replicate 48 0)⟩ : api_Final)] : List api_Final)).length c72,.int .i64 t49,.slice (vA A71 c72 t49.toNat 49) ((t14 ++ ([(⟨0,(Vector.replicate 48 0)⟩ : api_Final)] : List api_Final)).length - t49.toNat) (c72 - t49.toNat),undef]) (vx:=fun _ => [.slice A71 (t14 ++ ([(⟨0,(Vector.replicate 48 0)⟩ : api_Final)] : List api_Final)).length c72,.int .i64 t49,.int .i64 (IntKind.i64.wrap (t49 + 1)),.slice (vA A71 c72 ((IntKind.i64.wrap (t49 + 1)).toNat) 49) ((t14 ++ ([(⟨0,(Vector.replicate 48 0)⟩ : api_Final)] : List api_Final)).length - (IntKind.i64.wrap (t49 + 1)).toNat) (c72 - ((IntKind.i64.wrap (t49 + 1)).toNat)),.slice A71 (t14 ++ ([(⟨0,(Vector.replicate 48 0)⟩ : api_Final)] : List api_Final)).length c72,.int .i64 t49,.slice (vA A71 c72 t49.toNat 49) ((t14 ++ ([(⟨0,(Vector.replicate 48 0)⟩ : api_Final)] : List api_Final)).length - t49.toNat) (c72 - t49.toNat),.int .i64 ((min (((t14 ++ ([(⟨0,(Vector.replicate 48 0)⟩ : api_Final)] : List api_Final)).drop t49.toNat).take ((t14 ++ ([(⟨0,(Vector.replicate 48 0)⟩ : api_Final)] : List api_Final)).length - t49.toNat)).length ((t14 ++ ([(⟨0,(Vector.replicate 48 0)⟩ : api_Final)] : List api_Final)).length - (IntKind.i64.wrap (t49 + 1)).toNat) : Nat) : Int)]) 7 8 [7] [] (by kernel_rfl) (by kernel_rfl) (by kernel_rfl) (by decide) (by kernel_rfl) (by kernel_rfl) (by kernel_rfl) rfl ?_ (fun _ => ⟨rfl,rfl⟩) hS74.drew ?_ ?_ ?_ ?_ ?_
      ·intro _u i hi hd
       match i,hi,hd with
       | 0,_,_ => exact rfl
       | 1,_,_ => exact rfl
       | 2,_,_ => exact rfl
       | 3,_,_ => exact rfl
       | 4,_,_ => exact rfl
       | 5,_,_ => exact rfl
       | 6,_,_ => exact rfl
       | 7,_,hd => exact absurd hd (by decide)
       | i + 8,hi,_ => exact absurd hi (by omega)
      ·intro i hi hd w hC
       match i,hi,hd with
       | 0,_,_ => exact does_pure (v:=.slice A71 (t14 ++ ([(⟨0,(Vector.replicate 48 0)⟩ : api_Final)] : List api_Final)).length c72) (by kernel_rfl) rfl hC
       | 1,_,_ => exact does_pure (v:=.int .i64 t49) (by kernel_rfl) rfl hC
       | 2,_,_ => exact does_pure (v:=.int .i64 (IntKind.i64.wrap (t49 + 1))) (by kernel_rfl) rfl hC
       | 3,_,_ => exact does_run (x_cutSl_sn (t:=39) (x:=(.tmp 55)) (lo:=(.tmp 57)) (e:=84) (sz:=49) (A:=A71) (n:=(t14 ++ ([(⟨0,(Vector.replicate 48 0)⟩ : api_Final)] : List api_Final)).length) (c:=c72) (k:=.i64) (by kernel_rfl) (by kernel_rfl) (by kernel_rfl) (by kernel_rfl) g78 rfl (by kernel_rfl)) rfl hC
       | 4,_,_ => exact does_pure (v:=.slice A71 (t14 ++ ([(⟨0,(Vector.replicate 48 0)⟩ : api_Final)] : List api_Final)).length c72) (by kernel_rfl) rfl hC
       | 5,_,_ => exact does_pure (v:=.int .i64 t49) (by kernel_rfl) rfl hC
       | 6,_,_ => exact does_run (x_cutSl_sn (t:=39) (x:=(.tmp 59)) (lo:=(.tmp 60)) (e:=84) (sz:=49) (A:=A71) (n:=(t14 ++ ([(⟨0,(Vector.replicate 48 0)⟩ : api_Final)] : List api_Final)).length) (c:=c72) (k:=.i64) (by kernel_rfl) (by kernel_rfl) (by kernel_rfl) (by kernel_rfl) g85 rfl (by kernel_rfl)) rfl hC
       | 7,_,hd => exact absurd hd (by decide)
       | i + 8,hi,_ => exact absurd hi (by omega)
      ·intro i hi hd _u w hC
       match i,hi,hd with
       | 0,_,_ => exact does_pure (v:=.slice A71 (t14 ++ ([(⟨0,(Vector.replicate 48 0)⟩ : api_Final)] : List api_Final)).length c72) (by kernel_rfl) rfl hC
       | 1,_,_ => exact does_pure (v:=.int .i64 t49) (by kernel_rfl) rfl hC
       | 2,_,_ => exact does_pure (v:=.int .i64 (IntKind.i64.wrap (t49 + 1))) (by kernel_rfl) rfl hC
       | 3,_,_ => exact does_run (x_cutSl_sn (t:=39) (x:=(.tmp 55)) (lo:=(.tmp 57)) (e:=84) (sz:=49) (A:=A71) (n:=(t14 ++ ([(⟨0,(Vector.replicate 48 0)⟩ : api_Final)] : List api_Final)).length) (c:=c72) (k:=.i64) (by kernel_rfl) (by kernel_rfl) (by kernel_rfl) (by kernel_rfl) g78 rfl (by kernel_rfl)) rfl hC
       | 4,_,_ => exact does_pure (v:=.slice A71 (t14 ++ ([(⟨0,(Vector.replicate 48 0)⟩ : api_Final)] : List api_Final)).length c72) (by kernel_rfl) rfl hC
       | 5,_,_ => exact does_pure (v:=.int .i64 t49) (by kernel_rfl) rfl hC
       | 6,_,_ => exact does_run (x_cutSl_sn (t:=39) (x:=(.tmp 59)) (lo:=(.tmp 60)) (e:=84) (sz:=49) (A:=A71) (n:=(t14 ++ ([(⟨0,(Vector.replicate 48 0)⟩ : api_Final)] : List api_Final)).length) (c:=c72) (k:=.i64) (by kernel_rfl) (by kernel_rfl) (by kernel_rfl) (by kernel_rfl) g85 rfl (by kernel_rfl)) rfl hC
       | 7,_,hd => exact absurd hd (by decide)
       | i + 8,hi,_ => exact absurd hi (by omega)
      ·intro w hC
       exact does_copyV (ux:=()) (enc:=enc_api_Final) (e:=84) (t:=39) (t2:=39) (sz:=49) (cp:=c72) (L:=((IntKind.i64.wrap (t49 + 1)).toNat)) (n:=((t14 ++ ([(⟨0,(Vector.replicate 48 0)⟩ : api_Final)] : List api_Final)).length - (IntKind.i64.wrap (t49 + 1)).toNat)) (A:=A71) (xs:=(t14 ++ ([(⟨0,(Vector.replicate 48 0)⟩ : api_Final)] : List api_Final))) (ys:=(((t14 ++ ([(⟨0,(Vector.replicate 48 0)⟩ : api_Final)] : List api_Final)).drop t49.toNat).take ((t14 ++ ([(⟨0,(Vector.replicate 48 0)⟩ : api_Final)] : List api_Final)).length - t49.toNat))) (s:=(.tmp 58)) (x:=(.tmp 61)) (xv:=.slice (vA A71 c72 t49.toNat 49) ((t14 ++ ([(⟨0,(Vector.replicate 48 0)⟩ : api_Final)] : List api_Final)).length - t49.toNat) (c72 - t49.toNat)) hC (by kernel_rfl) (by kernel_rfl) (by kernel_rfl) (by kernel_rfl) (by kernel_rfl) (by omega) len_api_Final one_api_Final (by omega) (src_rowV' (L:=t49.toNat) (n:=((t14 ++ ([(⟨0,(Vector.replicate 48 0)⟩ : api_Final)] : List api_Final)).length - t49.toNat)) (hC.row 0 rfl) (by omega) len_api_Final (by omega)) rfl (fun _ h => h)
      ·intro i hi hd hne _u w hC
       match i,hi,hd,hne with
       | 0,_,hd,_ => exact absurd hd (by decide)
       | 1,_,hd,_ => exact absurd hd (by decide)
       | 2,_,hd,_ => exact absurd hd (by decide)
       | 3,_,hd,_ => exact absurd hd (by decide)
       | 4,_,hd,_ => exact absurd hd (by decide)
       | 5,_,hd,_ => exact absurd hd (by decide)
       | 6,_,hd,_ => exact absurd hd (by decide)
       | 7,_,_,hne => exact absurd rfl hne
       | i + 8,hi,_,_ => exact absurd hi (by omega)
      intro _u w94 hS95
      subst hg77
      refine rF [none,none,none,some (.slice A71 (t14 ++ ([(⟨0,(Vector.replicate 48 0)⟩ : api_Final)] : List api_Final)).length c72),none,none,none,none,none,none,none,none,none,none,none,none,none,none,none,none,none,none,none,none,none,none,none,none,none,none,none,none,none,none,none,none,none,none,none,none,none,none,none,none,none,none,none,none,none,none,none,none,none,none,some (.slice A71 (t14 ++ ([(⟨0,(Vector.replicate 48 0)⟩ : api_Final)] : List api_Final)).length c72),some (.slice A71 (t14 ++ ([(⟨0,(Vector.replicate 48 0)⟩ : api_Final)] : List api_Final)).length c72),none,none,none,some (.slice A71 (t14 ++ ([(⟨0,(Vector.replicate 48 0)⟩ : api_Final)] : List api_Final)).length c72),none,none,none,none,none,none,none,none,none,none,none] ?_
      refine Runs.refill (m':=[none,none,none,some (.slice A71 (copyv (t14 ++ ([(⟨0,(Vector.replicate 48 0)⟩ : api_Final)] : List api_Final)) ((IntKind.i64.wrap (t49 + 1)).toNat) ((t14 ++ ([(⟨0,(Vector.replicate 48 0)⟩ : api_Final)] : List api_Final)).length - (IntKind.i64.wrap (t49 + 1)).toNat) (((t14 ++ ([(⟨0,(Vector.replicate 48 0)⟩ : api_Final)] : List api_Final)).drop t49.toNat).take ((t14 ++ ([(⟨0,(Vector.replicate 48 0)⟩ : api_Final)] : List api_Final)).length - t49.toNat))).length c72),none,none,none,none,none,none,none,none,none,none,none,none,none,none,none,none,none,none,none,none,none,none,none,none,none,none,none,none,none,none,none,none,none,none,none,none,none,none,none,none,none,none,none,none,none,none,none,none,none,none,some (.slice A71 (copyv (t14 ++ ([(⟨0,(Vector.replicate 48 0)⟩ : api_Final)] : List api_Final)) ((IntKind.i64.wrap (t49 + 1)).toNat) ((t14 ++ ([(⟨0,(Vector.replicate 48 0)⟩ : api_Final)] : List api_Final)).length - (IntKind.i64.wrap (t49 + 1)).toNat) (((t14 ++ ([(⟨0,(Vector.replicate 48 0)⟩ : api_Final)] : List api_Final)).drop t49.toNat).take ((t14 ++ ([(⟨0,(Vector.replicate 48 0)⟩ : api_Final)] : List api_Final)).length - t49.toNat))).length c72),some (.slice A71 (copyv (t14 ++ ([(⟨0,(Vector.replicate 48 0)⟩ : api_Final)] : List api_Final)) ((IntKind.i64.wrap (t49 + 1)).toNat) ((t14 ++ ([(⟨0,(Vector.replicate 48 0)⟩ : api_Final)] : List api_Final)).length - (IntKind.i64.wrap (t49 + 1)).toNat) (((t14 ++ ([(⟨0,(Vector.replicate 48 0)⟩ : api_Final)] : List api_Final)).drop t49.toNat).take ((t14 ++ ([(⟨0,(Vector.replicate 48 0)⟩ : api_Final)] : List api_Final)).length - t49.toNat))).length c72),none,none,none,some (.slice A71 (copyv (t14 ++ ([(⟨0,(Vector.replicate 48 0)⟩ : api_Final)] : List api_Final)) ((IntKind.i64.wrap (t49 + 1)).toNat) ((t14 ++ ([(⟨0,(Vector.replicate 48 0)⟩ : api_Final)] : List api_Final)).length - (IntKind.i64.wrap (t49 + 1)).toNat) (((t14 ++ ([(⟨0,(Vector.replicate 48 0)⟩ : api_Final)] : List api_Final)).drop t49.toNat).take ((t14 ++ ([(⟨0,(Vector.replicate 48 0)⟩ : api_Final)] : List api_Final)).length - t49.toNat))).length c72),none,none,none,none,none,none,none,none,none,none,none]) (by simp only [copyv_len (show ((IntKind.i64.wrap (t49 + 1)).toNat) + ((t14 ++ ([(⟨0,(Vector.replicate 48 0)⟩ : api_Final)] : List api_Final)).length - (IntKind.i64.wrap (t49 + 1)).toNat) ≤ (t14 ++ ([(⟨0,(Vector.replicate 48 0)⟩ : api_Final)] : List api_Final)).length from by omega)]) ?_
      refine sR 5 (iR p43_18 4 4::td146) ?_
      obtain ⟨g96,hp97⟩:=ite_some hp93
      obtain ⟨b98,p99,hA100,hc101⟩:=ha0.atF g96.1 g96.2
      refine r_indexAddr (c:=p43_18) (i:=4) (d:=(some 67)) (ty:=0) (t:=39) (e:=84) (n:=a0.length) (cp:=ca0) (sz:=49) (kk:=.i64) (x:=(.tmp 65)) (y:=(.tmp 66)) (b:=b98) (o':=p99) (j:=t18) (by kernel_rfl) (by kernel_rfl) (slv (by kernel_rfl) hA100) (by kernel_rfl) (by kernel_rfl) (by kernel_rfl) g96.1 g96.2 ?_
      refine rL 84 (.tmp 67) (loads_agg (hc101.cells hS95) (by kernel_rfl) (lenK (len_api_Final _) (by kernel_rfl))) ?_
      obtain ⟨g102,hp103⟩:=ite_some hp97
      obtain ⟨b104,p105,hA106,-⟩:=(hS95.row 0 rfl).at_ len_api_Final (by omega) g102.1 g102.2
      refine r_indexAddr (c:=p43_18) (i:=6) (d:=(some 69)) (ty:=0) (t:=39) (e:=84) (n:=(copyv (t14 ++ ([(⟨0,(Vector.replicate 48 0)⟩ : api_Final)] : List api_Final)) ((IntKind.i64.wrap (t49 + 1)).toNat) ((t14 ++ ([(⟨0,(Vector.replicate 48 0)⟩ : api_Final)] : List api_Final)).length - (IntKind.i64.wrap (t49 + 1)).toNat) (((t14 ++ ([(⟨0,(Vector.replicate 48 0)⟩ : api_Final)] : List api_Final)).drop t49.toNat).take ((t14 ++ ([(⟨0,(Vector.replicate 48 0)⟩ : api_Final)] : List api_Final)).length - t49.toNat))).length) (cp:=c72) (sz:=49) (kk:=.i64) (x:=(.tmp 63)) (y:=(.tmp 64)) (b:=b104) (o':=p105) (j:=t49) (by kernel_rfl) (by kernel_rfl) (slv (by kernel_rfl) hA106) (by kernel_rfl) (by kernel_rfl) (by kernel_rfl) g102.1 g102.2 ?_
      refine r_storeEl (c:=p43_18) (i:=7) (d:=none) (ty:=0) (enc:=enc_api_Final) (e:=84) (t:=84) (sz:=49) (cp:=c72) (A:=A71) (xs:=(copyv (t14 ++ ([(⟨0,(Vector.replicate 48 0)⟩ : api_Final)] : List api_Final)) ((IntKind.i64.wrap (t49 + 1)).toNat) ((t14 ++ ([(⟨0,(Vector.replicate 48 0)⟩ : api_Final)] : List api_Final)).length - (IntKind.i64.wrap (t49 + 1)).toNat) (((t14 ++ ([(⟨0,(Vector.replicate 48 0)⟩ : api_Final)] : List api_Final)).drop t49.toNat).take ((t14 ++ ([(⟨0,(Vector.replicate 48 0)⟩ : api_Final)] : List api_Final)).length - t49.toNat)))) (x:=(.tmp 69)) (y:=(.tmp 68)) (el:=gt (copyv (t14 ++ ([(⟨0,(Vector.replicate 48 0)⟩ : api_Final)] : List api_Final)) ((IntKind.i64.wrap (t49 + 1)).toNat) ((t14 ++ ([(⟨0,(Vector.replicate 48 0)⟩ : api_Final)] : List api_Final)).length - (IntKind.i64.wrap (t49 + 1)).toNat) (((t14 ++ ([(⟨0,(Vector.replicate 48 0)⟩ : api_Final)] : List api_Final)).drop t49.toNat).take ((t14 ++ ([(⟨0,(Vector.replicate 48 0)⟩ : api_Final)] : List api_Final)).length - t49.toNat))) t49) (el':=(gt a0 t18)) (j:=t49) (off:=0) (b:=b104) (p:=p105) (v:=.agg (enc_api_Final (gt a0 t18)).toArray) (vs:=enc_api_Final (gt a0 t18)) (ad:=⟨b104,p105 + t49.toNat * 49,none⟩) hS95 (by kernel_rfl) (by kernel_rfl) (by kernel_rfl) (by simp) (by kernel_rfl) hA106 g102 rfl len_api_Final (by kernel_rfl) (lenK (len_api_Final _) (by kernel_rfl)) (one_api_Final _) (by rw [len_api_Final]; omega) (by rw [len_api_Final]; omega) (over_all ((len_api_Final _).trans (len_api_Final _).symm)) ?_
      intro w108 hS109
      refine rF [none,none,none,some (.slice A71 (copyv (t14 ++ ([(⟨0,(Vector.replicate 48 0)⟩ : api_Final)] : List api_Final)) ((IntKind.i64.wrap (t49 + 1)).toNat) ((t14 ++ ([(⟨0,(Vector.replicate 48 0)⟩ : api_Final)] : List api_Final)).length - (IntKind.i64.wrap (t49 + 1)).toNat) (((t14 ++ ([(⟨0,(Vector.replicate 48 0)⟩ : api_Final)] : List api_Final)).drop t49.toNat).take ((t14 ++ ([(⟨0,(Vector.replicate 48 0)⟩ : api_Final)] : List api_Final)).length - t49.toNat))).length c72),none,none,none,none,none,none,none,none,none,none,none,none,none,none,none,none,none,none,none,none,none,none,none,none,none,none,none,none,none,none,none,none,none,none,none,none,none,none,none,none,none,none,none,none,none,none,none,none,none,none,some (.slice A71 (copyv (t14 ++ ([(⟨0,(Vector.replicate 48 0)⟩ : api_Final)] : List api_Final)) ((IntKind.i64.wrap (t49 + 1)).toNat) ((t14 ++ ([(⟨0,(Vector.replicate 48 0)⟩ : api_Final)] : List api_Final)).length - (IntKind.i64.wrap (t49 + 1)).toNat) (((t14 ++ ([(⟨0,(Vector.replicate 48 0)⟩ : api_Final)] : List api_Final)).drop t49.toNat).take ((t14 ++ ([(⟨0,(Vector.replicate 48 0)⟩ : api_Final)] : List api_Final)).length - t49.toNat))).length c72),some (.slice A71 (copyv (t14 ++ ([(⟨0,(Vector.replicate 48 0)⟩ : api_Final)] : List api_Final)) ((IntKind.i64.wrap (t49 + 1)).toNat) ((t14 ++ ([(⟨0,(Vector.replicate 48 0)⟩ : api_Final)] : List api_Final)).length - (IntKind.i64.wrap (t49 + 1)).toNat) (((t14 ++ ([(⟨0,(Vector.replicate 48 0)⟩ : api_Final)] : List api_Final)).drop t49.toNat).take ((t14 ++ ([(⟨0,(Vector.replicate 48 0)⟩ : api_Final)] : List api_Final)).length - t49.toNat))).length c72),none,none,none,some (.slice A71 (copyv (t14 ++ ([(⟨0,(Vector.replicate 48 0)⟩ : api_Final)] : List api_Final)) ((IntKind.i64.wrap (t49 + 1)).toNat) ((t14 ++ ([(⟨0,(Vector.replicate 48 0)⟩ : api_Final)] : List api_Final)).length - (IntKind.i64.wrap (t49 + 1)).toNat) (((t14 ++ ([(⟨0,(Vector.replicate 48 0)⟩ : api_Final)] : List api_Final)).drop t49.toNat).take ((t14 ++ ([(⟨0,(Vector.replicate 48 0)⟩ : api_Final)] : List api_Final)).length - t49.toNat))).length c72),none,none,none,some (.slice A71 (copyv (t14 ++ ([(⟨0,(Vector.replicate 48 0)⟩ : api_Final)] : List api_Final)) ((IntKind.i64.wrap (t49 + 1)).toNat) ((t14 ++ ([(⟨0,(Vector.replicate 48 0)⟩ : api_Final)] : List api_Final)).length - (IntKind.i64.wrap (t49 + 1)).toNat) (((t14 ++ ([(⟨0,(Vector.replicate 48 0)⟩ : api_Final)] : List api_Final)).drop t49.toNat).take ((t14 ++ ([(⟨0,(Vector.replicate 48 0)⟩ : api_Final)] : List api_Final)).length - t49.toNat))).length c72),none,none,none,none,none,none,none] ?_
      refine Runs.refill (m':=[none,none,none,some (.slice A71 (setl (copyv (t14 ++ ([(⟨0,(Vector.replicate 48 0)⟩ : api_Final)] : List api_Final)) ((IntKind.i64.wrap (t49 + 1)).toNat) ((t14 ++ ([(⟨0,(Vector.replicate 48 0)⟩ : api_Final)] : List api_Final)).length - (IntKind.i64.wrap (t49 + 1)).toNat) (((t14 ++ ([(⟨0,(Vector.replicate 48 0)⟩ : api_Final)] : List api_Final)).drop t49.toNat).take ((t14 ++ ([(⟨0,(Vector.replicate 48 0)⟩ : api_Final)] : List api_Final)).length - t49.toNat))) t49 (gt a0 t18)).length c72),none,none,none,none,none,none,none,none,none,none,none,none,none,none,none,none,none,none,none,none,none,none,none,none,none,none,none,none,none,none,none,none,none,none,none,none,none,none,none,none,none,none,none,none,none,none,none,none,none,none,some (.slice A71 (setl (copyv (t14 ++ ([(⟨0,(Vector.replicate 48 0)⟩ : api_Final)] : List api_Final)) ((IntKind.i64.wrap (t49 + 1)).toNat) ((t14 ++ ([(⟨0,(Vector.replicate 48 0)⟩ : api_Final)] : List api_Final)).length - (IntKind.i64.wrap (t49 + 1)).toNat) (((t14 ++ ([(⟨0,(Vector.replicate 48 0)⟩ : api_Final)] : List api_Final)).drop t49.toNat).take ((t14 ++ ([(⟨0,(Vector.replicate 48 0)⟩ : api_Final)] : List api_Final)).length - t49.toNat))) t49 (gt a0 t18)).length c72),some (.slice A71 (setl (copyv (t14 ++ ([(⟨0,(Vector.replicate 48 0)⟩ : api_Final)] : List api_Final)) ((IntKind.i64.wrap (t49 + 1)).toNat) ((t14 ++ ([(⟨0,(Vector.replicate 48 0)⟩ : api_Final)] : List api_Final)).length - (IntKind.i64.wrap (t49 + 1)).toNat) (((t14 ++ ([(⟨0,(Vector.replicate 48 0)⟩ : api_Final)] : List api_Final)).drop t49.toNat).take ((t14 ++ ([(⟨0,(Vector.replicate 48 0)⟩ : api_Final)] : List api_Final)).length - t49.toNat))) t49 (gt a0 t18)).length c72),none,none,none,some (.slice A71 (setl (copyv (t14 ++ ([(⟨0,(Vector.replicate 48 0)⟩ : api_Final)] : List api_Final)) ((IntKind.i64.wrap (t49 + 1)).toNat) ((t14 ++ ([(⟨0,(Vector.replicate 48 0)⟩ : api_Final)] : List api_Final)).length - (IntKind.i64.wrap (t49 + 1)).toNat) (((t14 ++ ([(⟨0,(Vector.replicate 48 0)⟩ : api_Final)] : List api_Final)).drop t49.toNat).take ((t14 ++ ([(⟨0,(Vector.replicate 48 0)⟩ : api_Final)] : List api_Final)).length - t49.toNat))) t49 (gt a0 t18)).length c72),none,none,none,some (.slice A71 (setl (copyv (t14 ++ ([(⟨0,(Vector.replicate 48 0)⟩ : api_Final)] : List api_Final)) ((IntKind.i64.wrap (t49 + 1)).toNat) ((t14 ++ ([(⟨0,(Vector.replicate 48 0)⟩ : api_Final)] : List api_Final)).length - (IntKind.i64.wrap (t49 + 1)).toNat) (((t14 ++ ([(⟨0,(Vector.replicate 48 0)⟩ : api_Final)] : List api_Final)).drop t49.toNat).take ((t14 ++ ([(⟨0,(Vector.replicate 48 0)⟩ : api_Final)] : List api_Final)).length - t49.toNat))) t49 (gt a0 t18)).length c72),none,none,none,none,none,none,none]) (by simp only [setl_len]) ?_
      refine sR 7 td143 ?_
      have hS110:=hS109.pick1
      have hS111:=hS110.drop
      refine sR 1 td144 ?_
      exact rF _ (ih25 (setl (copyv (t14 ++ ([(⟨0,(Vector.replicate 48 0)⟩ : api_Final)] : List api_Final)) ((IntKind.i64.wrap (t49 + 1)).toNat) ((t14 ++ ([(⟨0,(Vector.replicate 48 0)⟩ : api_Final)] : List api_Final)).length - (IntKind.i64.wrap (t49 + 1)).toNat) (((t14 ++ ([(⟨0,(Vector.replicate 48 0)⟩ : api_Final)] : List api_Final)).drop t49.toNat).take ((t14 ++ ([(⟨0,(Vector.replicate 48 0)⟩ : api_Final)] : List api_Final)).length - t49.toNat))) t49 (gt a0 t18)) (IntKind.i64.wrap (t18 + 1)) _ hp103 he23 _ A71 c72 _ hS111)
     refine r_quiet hS51 (c:=p43_12) (id:=9) (by kernel_rfl) (by kernel_rfl) (by kernel_rfl) (is:=[0,1,2,3,4,5,6,7,8,9,10,11,12,13]) (by kernel_rfl) ?_
     refine qI 2 (rg 2 12) 38 hv56 (fun hp114 => ?_) fun hp139 => ?_
     ·refine qR 4 (rg 6 8) ?_
      obtain ⟨g115,hp116⟩:=ite_some hp114
      obtain ⟨b117,p118,hA119,-⟩:=(hS51.row 0 rfl).at_ len_api_Final (by omega) g115.1 g115.2
      refine q_indexAddr (c:=p43_12) (i:=6) (d:=(some 43)) (ty:=0) (t:=39) (e:=84) (n:=t14.length) (cp:=c16) (sz:=49) (kk:=.i64) (x:=(.tmp 40)) (y:=(.tmp 42)) (b:=b117) (o':=p118) (j:=(IntKind.i64.wrap (t49 - 1))) (by kernel_rfl) (by kernel_rfl) (slv (by kernel_rfl) hA119) (by kernel_rfl) (by kernel_rfl) (by kernel_rfl) g115.1 g115.2 ?_
      refine qL 84 (.tmp 43) (fun w hC => (loads_agg ((hC.row 0 rfl).at2 hA119 len_api_Final (by omega) g115.1 g115.2) (by kernel_rfl) (lenK (len_api_Final _) (by kernel_rfl)))) ?_
      refine qR 2 (rg 10 4) ?_
      obtain ⟨g121,hp122⟩:=ite_some hp116
      obtain ⟨b123,p124,hA125,hc126⟩:=ha0.atF g121.1 g121.2
      refine q_indexAddr (c:=p43_12) (i:=10) (d:=(some 47)) (ty:=0) (t:=39) (e:=84) (n:=a0.length) (cp:=ca0) (sz:=49) (kk:=.i64) (x:=(.tmp 45)) (y:=(.tmp 46)) (b:=b123) (o':=p124) (j:=t18) (by kernel_rfl) (by kernel_rfl) (slv (by kernel_rfl) hA125) (by kernel_rfl) (by kernel_rfl) (by kernel_rfl) g121.1 g121.2 ?_
      refine qL 84 (.tmp 47) (fun w hC => (loads_agg (hc126.cells hC) (by kernel_rfl) (lenK (len_api_Final _) (by kernel_rfl)))) ?_
      refine qV (.binOp .eql 84 (.tmp 44) (.tmp 48) 84) (.bool (decide ((gt t14 (IntKind.i64.wrap (t49 - 1))) = (gt a0 t18)))) (fun w hC o ho _ => x_eql_api_Final (by kernel_rfl) (by kernel_rfl) ho) ?_
      refine q_split (decide ((gt t14 (IntKind.i64.wrap (t49 - 1))) = (gt a0 t18))) (fun h127 => ?_) (fun h128 => ?_)
      ·have hp129:=ite_t hp122 h127
       refine qR 1 [] ?_
       refine Qs.nil ?_
       intro w130 hS131
       refine sR 7 td143 ?_
       obtain ⟨x132,hx133,hy134⟩:=bind_some' hp129
       have hz135:=(hq60 _ (Option.some.inj hy134))
       subst hz135
       refine sR 1 td144 ?_
       exact rF _ (ih25 (id t14) (IntKind.i64.wrap (t18 + 1)) _ hx133 he23 _ A15 c16 _ hS131)
      have hp136:=ite_f hp122 h128
      refine qR 1 [] ?_
      refine Qs.nil ?_
      intro w137 hS138
      refine sR 2 td151 ?_
      exact rF _ (J61 (Option.some.inj hp136) _ _ hS138)
     refine qR 12 [] ?_
     refine Qs.nil ?_
     intro w140 hS141
     refine sR 2 td151 ?_
     exact rF _ (J61 (Option.some.inj hp139) _ _ hS141)
    have L151 : ∀ (t142 e146 : Int),weirref10_Sort.l1 a0 t14 t18 t142 = some e146 → e146 = v46 → ∀ (l145 : List Value) (w143 : World) (hS144 : St w0 Z (xrow A15 c16 84 49 (t14.flatMap enc_api_Final)::fs) w143),Runs Try.prog (fx 43) td150 (fill (mk 71 [(0,.slice Aa0 a0.length ca0),(3,.slice A15 t14.length c16),(4,.int .i64 t18),(5,.int .i64 t142)]) l145) w143 R:=by
     refine weirref10_Sort.l1.partial_correctness a0 t14 t18 (fun t142 e146 => e146 = v46 → ∀ (l145 : List Value) (w143 : World) (hS144 : St w0 Z (xrow A15 c16 84 49 (t14.flatMap enc_api_Final)::fs) w143),Runs Try.prog (fx 43) td150 (fill (mk 71 [(0,.slice Aa0 a0.length ca0),(3,.slice A15 t14.length c16),(4,.int .i64 t18),(5,.int .i64 t142)]) l145) w143 R) ?_
     intro rec150 ih149 t142 e146 hb148 he147 l145 w143 hS144
     refine sR 2 (.code p43_19::.code (cd43 [1,1,0,1,0,0,1,0,0,1,1,0,0,0,0,1])::.code (cd43 [1,1,0,1,0,0,1,0,0,1,1,0,0,0,1])::td149) ?_
     refine r_quiet hS144 (c:=p43_19) (id:=7) (by kernel_rfl) (by kernel_rfl) (by kernel_rfl) (is:=[0,1,2,3,4,5,6,7,8,9,10,11,12,13,14]) (by kernel_rfl) ?_
     refine qI 2 (rg 2 13) 21 hb148 (fun hp154 => ?_) fun hp178 => ?_
     ·refine qR 4 (rg 6 9) ?_
      obtain ⟨g155,hp156⟩:=ite_some hp154
      obtain ⟨b157,p158,hA159,-⟩:=(hS144.row 0 rfl).at_ len_api_Final (by omega) g155.1 g155.2
      refine q_indexAddr (c:=p43_19) (i:=6) (d:=(some 26)) (ty:=0) (t:=39) (e:=84) (n:=t14.length) (cp:=c16) (sz:=49) (kk:=.i64) (x:=(.tmp 23)) (y:=(.tmp 25)) (b:=b157) (o':=p158) (j:=(IntKind.i64.wrap (t142 - 1))) (by kernel_rfl) (by kernel_rfl) (slv (by kernel_rfl) hA159) (by kernel_rfl) (by kernel_rfl) (by kernel_rfl) g155.1 g155.2 ?_
      refine qL 84 (.tmp 26) (fun w hC => (loads_agg ((hC.row 0 rfl).at2 hA159 len_api_Final (by omega) g155.1 g155.2) (by kernel_rfl) (lenK (len_api_Final _) (by kernel_rfl)))) ?_
      refine qR 2 (rg 10 5) ?_
      obtain ⟨g161,hp162⟩:=ite_some hp156
      obtain ⟨b163,p164,hA165,hc166⟩:=ha0.atF g161.1 g161.2
      refine q_indexAddr (c:=p43_19) (i:=10) (d:=(some 30)) (ty:=0) (t:=39) (e:=84) (n:=a0.length) (cp:=ca0) (sz:=49) (kk:=.i64) (x:=(.tmp 28)) (y:=(.tmp 29)) (b:=b163) (o':=p164) (j:=t18) (by kernel_rfl) (by kernel_rfl) (slv (by kernel_rfl) hA165) (by kernel_rfl) (by kernel_rfl) (by kernel_rfl) g161.1 g161.2 ?_
      refine qL 84 (.tmp 30) (fun w hC => (loads_agg (hc166.cells hC) (by kernel_rfl) (lenK (len_api_Final _) (by kernel_rfl)))) ?_
      obtain ⟨t167,hr168,hp169⟩:=bind_some' hp162
      refine q_call1 (c:=p43_19) (i:=12) (d:=(some 32)) (v:=.int .i64 t167) (g:=54) (args:=#[.agg (enc_api_Final (gt t14 (IntKind.i64.wrap (t142 - 1)))).toArray,.agg (enc_api_Final (gt a0 t18)).toArray]) (by kernel_rfl) (by kernel_rfl) (by kernel_rfl) (by kernel_rfl) (fun w hC => by
       refine (weirref10_Compare.ok hr168 hC).mono ?_
       rintro e w2 ⟨rfl,h2⟩
       exact ⟨rfl,h2⟩) ?_
      refine qI 1 [14] 33 hp169 (fun hp172 => ?_) fun hp175 => ?_
      ·refine qR 1 [] ?_
       refine Qs.nil ?_
       intro w173 hS174
       refine sR 9 td149 ?_
       refine sR 1 td150 ?_
       exact rF _ (ih149 (IntKind.i64.wrap (t142 - 1)) _ hp172 he147 _ _ hS174)
      refine qR 1 [] ?_
      refine Qs.nil ?_
      intro w176 hS177
      refine sR 2 td147 ?_
      exact rF _ (J52 t142 ((Option.some.inj hp175).trans he147) _ _ hS177)
     refine qR 13 [] ?_
     refine Qs.nil ?_
     intro w179 hS180
     refine sR 2 td147 ?_
     exact rF _ (J52 t142 ((Option.some.inj hp178).trans he147) _ _ hS180)
    exact rF _ (L151 (t14.length : Int) _ hv47 rfl _ _ hS41)
   refine sR 3 td141 ?_
   exact rF _ (J10 t14 ((Option.some.inj hp181).trans he23) _ A15 c16 _ hS20)
  have hS183:=hS0.nilrow none 84 49
  exact rF _ (L27 [] 0 _ hv2 rfl _ none 0 _ hS183)

noncomputable def cd23 (p : List Nat) : Code := sub (bodyOf Try.f23) p
abbrev p23_6:=cd23 [1,1,1]
abbrev p23_11:=cd23 [1,1,1,1,1,0,1,0,0]
abbrev p23_15:=cd23 [1,1,1,1,1,0,1,0,0,0,0]
abbrev p23_16:=cd23 [1,1,1,1,1,0,1,0,0,0,1]
abbrev p23_17:=cd23 [1,1,1,1,1,0,1,0,0,1]
abbrev p23_18:=cd23 [1,1,1,1,1,0,1,0,0,1,0,0,0]
abbrev p23_21:=cd23 [1,1,1,1,1,0,1,0,0,1,0,0,1,0]
abbrev p23_22:=cd23 [1,1,1,1,1,0,1,0,0,1,0,0,1,1]
abbrev p23_23:=cd23 [1,1,1,1,1,0,1,0,0,1,0,0,1,1,0,0]
abbrev p23_24:=cd23 [1,1,1,1,1,0,1,0,0,1,0,0,1,1,0,1]
abbrev p23_25:=cd23 [1,1,1,1,1,0,1,0,0,1,0,0,1,1,1,0]
abbrev p23_27:=cd23 [1,1,1,1,1,0,1,0,0,1,0,0,1,1,1,1,0]
abbrev td152:List Item:=[.code (cd23 [1,1,1,1,1,1])]
abbrev td153:List Item:=.inBlock 0::td152
abbrev td154:List Item:=.inLoop p23_11::td153
abbrev td155:List Item:=.code p23_11::td154
abbrev td156:List Item:=.code (cd23 [1,1,1,1,1,0,1,0,0,1,1])::td154
abbrev td157:List Item:=.inBlock 1::td156
abbrev td158:List Item:=.code (cd23 [1,1,1,1,1,0,1,0,0,1,0,0,1,1,1,1])::td157
def weirref14_Explore.l0 (t9 : List ByteArray) (t11 : List (List weirref14_Move)) (t12 : List Bool) (t13 t182 : List api_Final) (t186 : Int) (t187 : api_Tally) : Option ((List api_Final) × api_Tally) :=
  (if (decide (t186 < (t9.length : Int))) = true then (if 0 ≤ t186 ∧ t186 < (t11.length : Int) then (if 0 ≤ t186 ∧ t186 < (t12.length : Int) then (if (gt t12 t186) = true then (if 0 ≤ t186 ∧ t186 < (t13.length : Int) then (if (t182.length + ([(gt t13 t186)] : List api_Final).length) * 392 ≤ 140737488355328 then (weirref14_Explore.l0 t9 t11 t12 t13 (t182 ++ ([(gt t13 t186)] : List api_Final)) (IntKind.i64.wrap (t186 + 1)) (⟨t187.States,(IntKind.i64.wrap (t187.Moves + ((gt t11 t186).length : Int))),(IntKind.i64.wrap (t187.Ends + 1)),t187.Stuck⟩ : api_Tally)) else none) else none) else (if 0 ≤ t186 ∧ t186 < (t11.length : Int) then (if (((gt t11 t186).length : Int) == 0) = true then (weirref14_Explore.l0 t9 t11 t12 t13 (id t182) (IntKind.i64.wrap (t186 + 1)) (⟨t187.States,(IntKind.i64.wrap (t187.Moves + ((gt t11 t186).length : Int))),t187.Ends,(IntKind.i64.wrap (t187.Stuck + 1))⟩ : api_Tally)) else (weirref14_Explore.l0 t9 t11 t12 t13 (id t182) (IntKind.i64.wrap (t186 + 1)) (⟨t187.States,(IntKind.i64.wrap (t187.Moves + ((gt t11 t186).length : Int))),t187.Ends,t187.Stuck⟩ : api_Tally))) else none)) else none) else none) else some ((t182,t187)))
 partial_fixpoint
def weirref14_Explore.f (y9 : ByteArray) (a0_1c0vv_0m a0_1c0vv_1m a0_1c0vv_2m : List (ByteArray × Int)) (a0_1c0vv_3 : Bool) (a0_1c1v : weirlaw14_Net) (a1 : Int) : Option ((List api_Final) × api_Tally × Int × Bool × (List (ByteArray × Int)) × (List (ByteArray × Int)) × (List (ByteArray × Int))) :=
  (weirref14_Lay.f y9 a0_1c0vv_0m a0_1c0vv_1m a0_1c0vv_2m a0_1c0vv_3 a0_1c1v a1 >>= (fun (t9,t10,t11,t12,t13,t14,t15,t16,t17,t18,t19,t20,t21) => (if (!t16) = true then some (([],(⟨0,0,0,0⟩ : api_Tally),1,t18,t19,t20,t21)) else (weirref14_Explore.l0 t9 t11 t12 t13 [] 0 (⟨(t9.length : Int),0,0,0⟩ : api_Tally) >>= (fun (t112,t116) => (weirref10_Sort.f t112 >>= (fun t127 => some ((t127,t116,0,t18,t19,t20,t21)))))))))
theorem weirref14_Explore.ok {y9 : ByteArray} {a0_1c0vv_0m a0_1c0vv_1m a0_1c0vv_2m : List (ByteArray × Int)} {a0_1c0vv_3 : Bool} {a0_1c1v : weirlaw14_Net} {a1 : Int} {ba0_1c0 ba0_1c0v : Nat} {ba0_1c0vv_0 ba0_1c0vv_1 : Nat} {ba0_1c0vv_2 ba0_1c1 : Nat} {Aa0_1c1v_0 : Option Addr} {ca0_1c1v_0 : Nat} {Aa0_1c1v_1 : Option Addr} {ca0_1c1v_1 : Nat} {Aa0_1c1v_2 : Option Addr} {ca0_1c1v_2 : Nat} {q0 : List api_Final} {q1 : api_Tally} {q2 : Int} {q3 : Bool} {q4 q5 q6 : List (ByteArray × Int)} (hp0 : weirref14_Explore.f y9 a0_1c0vv_0m a0_1c0vv_1m a0_1c0vv_2m a0_1c0vv_3 a0_1c1v a1 = some (q0,q1,q2,q3,q4,q5,q6)) (hS0 : St w0 Z (xblk ba0_1c0 33 ([.pointer (some ⟨ba0_1c0v,0,none⟩)])::xblk ba0_1c0v 49 ([.map (some ba0_1c0vv_0),.map (some ba0_1c0vv_1),.map (some ba0_1c0vv_2),.bool a0_1c0vv_3])::xmap ba0_1c0vv_0 (a0_1c0vv_0m.map (kv Value.string (Value.int .i64)))::xmap ba0_1c0vv_1 (a0_1c0vv_1m.map (kv Value.string (Value.int .i64)))::xmap ba0_1c0vv_2 (a0_1c0vv_2m.map (kv Value.string (Value.int .i64)))::xblk ba0_1c1 26 ([.slice Aa0_1c1v_0 a0_1c1v.Next.length ca0_1c1v_0,.slice Aa0_1c1v_1 a0_1c1v.End.length ca0_1c1v_1,.slice Aa0_1c1v_2 a0_1c1v.Value.length ca0_1c1v_2,.int .i64 a0_1c1v.Start])::fs) w) (ha0_1c1v_0 : SlZ (repL (flat (encI .i64)) 1) 1 Z Aa0_1c1v_0 ca0_1c1v_0 a0_1c1v.Next) (ha0_1c1v_1 : SlZ (flat encB) 1 Z Aa0_1c1v_1 ca0_1c1v_1 a0_1c1v.End) (ha0_1c1v_2 : SlZ (flat (encI .i64)) 1 Z Aa0_1c1v_2 ca0_1c1v_2 a0_1c1v.Value) :
    Calls Try.prog 23 #[.agg #[.string y9,.func (.func 28) #[] #[.pointer (some ⟨ba0_1c0,0,none⟩),.pointer (some ⟨ba0_1c1,0,none⟩)],.func (.func 31) #[] #[.pointer (some ⟨ba0_1c1,0,none⟩),.pointer (some ⟨ba0_1c0,0,none⟩)],.func (.func 32) #[] #[.pointer (some ⟨ba0_1c0,0,none⟩),.pointer (some ⟨ba0_1c1,0,none⟩)]],.int .i64 a1] w (fun e w' => ∃ (QA0 : Option Addr) (Qc0 : Nat),e = .returned (.tuple #[.slice QA0 q0.length Qc0,.agg (enc_api_Tally q1).toArray,.int .i64 q2]) ∧ St w0 Z (xrow QA0 Qc0 84 49 (q0.flatMap enc_api_Final)::xblk ba0_1c0 33 ([.pointer (some ⟨ba0_1c0v,0,none⟩)])::xblk ba0_1c0v 49 ([.map (some ba0_1c0vv_0),.map (some ba0_1c0vv_1),.map (some ba0_1c0vv_2),.bool q3])::xmap ba0_1c0vv_0 (q4.map (kv Value.string (Value.int .i64)))::xmap ba0_1c0vv_1 (q5.map (kv Value.string (Value.int .i64)))::xmap ba0_1c0vv_2 (q6.map (kv Value.string (Value.int .i64)))::xblk ba0_1c1 26 ([.slice Aa0_1c1v_0 a0_1c1v.Next.length ca0_1c1v_0,.slice Aa0_1c1v_1 a0_1c1v.End.length ca0_1c1v_1,.slice Aa0_1c1v_2 a0_1c1v.Value.length ca0_1c1v_2,.int .i64 a0_1c1v.Start])::fs) w'):=by
  refine calls_abs ?_; intro R hR
  unfold weirref14_Explore.f at hp0
  refine calls_of_runs (fn:=Try.f23) (c:=cd23 []) Try.func23 (by kernel_rfl) (al:=[.agg #[.string y9,.func (.func 28) #[] #[.pointer (some ⟨ba0_1c0,0,none⟩),.pointer (some ⟨ba0_1c1,0,none⟩)],.func (.func 31) #[] #[.pointer (some ⟨ba0_1c1,0,none⟩),.pointer (some ⟨ba0_1c0,0,none⟩)],.func (.func 32) #[] #[.pointer (some ⟨ba0_1c0,0,none⟩),.pointer (some ⟨ba0_1c1,0,none⟩)]],.int .i64 a1]) rfl (n:=68) rfl ?_
  refine sR 2 [iR (cd23 [0]) 0 4,.code (cd23 [1])] ?_
  refine r_box (c:=(cd23 [0])) (i:=0) (d:=(some 2)) (ty:=0) (x:=(.tmp 0)) (v:=.agg #[.string y9,.func (.func 28) #[] #[.pointer (some ⟨ba0_1c0,0,none⟩),.pointer (some ⟨ba0_1c1,0,none⟩)],.func (.func 31) #[] #[.pointer (some ⟨ba0_1c1,0,none⟩),.pointer (some ⟨ba0_1c0,0,none⟩)],.func (.func 32) #[] #[.pointer (some ⟨ba0_1c0,0,none⟩),.pointer (some ⟨ba0_1c1,0,none⟩)]]) (t:=32) (cs:=[.string y9,.func (.func 28) #[] #[.pointer (some ⟨ba0_1c0,0,none⟩),.pointer (some ⟨ba0_1c1,0,none⟩)],.func (.func 31) #[] #[.pointer (some ⟨ba0_1c1,0,none⟩),.pointer (some ⟨ba0_1c0,0,none⟩)],.func (.func 32) #[] #[.pointer (some ⟨ba0_1c0,0,none⟩),.pointer (some ⟨ba0_1c1,0,none⟩)]]) hS0 (by kernel_rfl) (by kernel_rfl) (by kernel_rfl) (by kernel_rfl) ?_
  intro b1 w2 hS3
  refine sR 1 [.inRegion (opsOf (cd23 [0])) [2,3],.code (cd23 [1])] ?_
  refine rA 70 (.agg (enc_api_Tally (⟨0,0,0,0⟩ : api_Tally)).toArray) (enc_api_Tally (⟨0,0,0,0⟩ : api_Tally)) hS3 ?_
  intro b5 w6 hS7
  refine sR 4 [iR (cd23 [1,0]) 0 5,.code (cd23 [1,1])] ?_
  refine rLa 32 (.tmp 2) (hS7.blk 1 rfl) ?_
  refine sR 1 [.inRegion (opsOf (cd23 [1,0])) [2,3,4],.code (cd23 [1,1])] ?_
  obtain ⟨⟨t9,t10,t11,t12,t13,t14,t15,t16,t17,t18,t19,t20,t21⟩,hr38,hp39⟩:=bind_some' hp0
  try dsimp only at hp39
  have hS51:=hS7.pick7
  have hS52:=hS51.pick7
  have hS53:=hS52.pick7
  have hS54:=hS53.pick7
  have hS55:=hS54.pick7
  have hS56:=hS55.pick7
  refine rC (weirref14_Lay.ok hr38 hS56 ha0_1c1v_0 ha0_1c1v_1 ha0_1c1v_2) ?_
  rintro _ w57 ⟨Q22,Q23,Q24,Q25,Q26,Q27,Q28,Q29,Q30,Q31,Q32,Q33,Q34,Q35,Q36,Q37,rfl,hS58⟩
  refine ⟨_,rfl,?_⟩
  have hS59:=hS58.pick2
  obtain ⟨Z60,hz61,hS62,hs63,-⟩:=hS59.lendrr len_weirref14_Move (by omega)
  refine rA 43 (.agg #[.slice none 0 0,.slice none 0 0,.slice none 0 0,.slice none 0 0,.slice none 0 0,.slice none 0 0,.slice none 0 0,.bool false,.map none]) [.slice none 0 0,.slice none 0 0,.slice none 0 0,.slice none 0 0,.slice none 0 0,.slice none 0 0,.slice none 0 0,.bool false,.map none] hS62 ?_
  intro b64 w65 hS66
  refine rS 43 (.tmp 7) (.tmp 13) 0 (.agg #[.slice Q22 t9.length Q23,.slice Q24 t10.length Q25,.slice Q26 t11.length Q27,.slice Q29 t12.length Q30,.slice Q31 t13.length Q32,.slice Q33 t14.length Q34,.slice Q35 t15.length Q36,.bool t16,.map (some Q37)]) [.slice Q22 t9.length Q23,.slice Q24 t10.length Q25,.slice Q26 t11.length Q27,.slice Q29 t12.length Q30,.slice Q31 t13.length Q32,.slice Q33 t14.length Q34,.slice Q35 t15.length Q36,.bool t16,.map (some Q37)] [.slice Q22 t9.length Q23,.slice Q24 t10.length Q25,.slice Q26 t11.length Q27,.slice Q29 t12.length Q30,.slice Q31 t13.length Q32,.slice Q33 t14.length Q34,.slice Q35 t15.length Q36,.bool t16,.map (some Q37)] hS66 ?_
  intro w68 hS69
  refine sR 5 [.inRegion (opsOf (cd23 [1,1,0,0])) [1,2],.code (cd23 [1,1,0,1]),.code p23_6] ?_
  refine rL1 4 (.tmp 14) 7 (hS69.blk 0 rfl) ?_
  refine sI 1 [.inRegion (opsOf (cd23 [1,1,0,0])) [],.code (cd23 [1,1,0,1]),.code p23_6] 16 hp39 (fun hp72 => ?_) fun hp100 => ?_
  ·refine sR 6 [.inRegion (opsOf (cd23 [1,1,0,1,0,0])) [2,3],.code (cd23 [1,1,0,1,0,1]),.code p23_6] ?_
   have hS73:=hS69.pick14
   refine rSA 70 (.tmp 5) (.tmp 17) (enc_api_Tally (⟨0,0,0,0⟩ : api_Tally)) hS73 (one_api_Tally _) ?_
   intro w74 hS75
   refine sR 2 [.code (cd23 [1,1,0,1,0,1]),.code p23_6] ?_
   have hS77:=hS75.nilrow none 84 49
   have hS78:=hS77.pick1
   have hS79:=hS78.drop
   have hS80:=hS79.pick1
   have hS81:=hS80.drop
   have hS82:=hS81.pick1
   have hS83:=hS82.drop
   have hS84:=hS83.pick1
   have hS85:=hS84.drop
   have hS86:=hS85.pick1
   have hS87:=hS86.drop
   have hS88:=hS87.pick1
   have hS89:=hS88.drop
   have hS90:=hS89.pick1
   have hS91:=hS90.drop
   have hS92:=hS91.pick1
   have hS93:=hS92.drop
   have hS94:=hS93.pick1
   have hS95:=hS94.drop
   have hS96:=hS95.pick7
   have hS97:=hS96.drop
   have hS98:=hS97.less hz61
   refine rRc (.tuple #[.slice none 0 0,.agg (enc_api_Tally (⟨0,0,0,0⟩ : api_Tally)).toArray,.int .i64 1]) (.tm 4 (.ca 5 70 (hS75.blk 0 rfl) (.tm 6 .nil))) Try.func23 ?_
   cases Option.some.inj hp72
   exact hR _ _ ⟨none,0,rfl,hS98⟩
  refine sR 10 [iR (cd23 [1,1,1,1,0]) 1 5,.code (cd23 [1,1,1,1,1])] ?_
  refine rL1 36 (.tmp 18) 0 (hS69.blk 0 rfl) ?_
  refine sR 2 [.inRegion (opsOf (cd23 [1,1,1,1,0])) [4,5],.code (cd23 [1,1,1,1,1])] ?_
  refine rA 70 (.agg (enc_api_Tally (⟨0,0,0,0⟩ : api_Tally)).toArray) (enc_api_Tally (⟨0,0,0,0⟩ : api_Tally)) hS69 ?_
  intro b101 w102 hS103
  refine rSA 70 (.tmp 9) (.tmp 21) (enc_api_Tally (⟨(t9.length : Int),0,0,0⟩ : api_Tally)) hS103 (one_api_Tally _) ?_
  intro w105 hS106
  refine sR 8 td155 ?_
  have hS107:=hS106.pick16
  have hS108:=hS107.drop
  obtain ⟨v109,hv110,hp111⟩:=bind_some' hp100
  have J119 : ∀ (t112 : List api_Final) (t116 : api_Tally) (he121 : (t112,t116) = v109) (l120 : List Value) (A113 : Option Addr) (c114 : Nat) (w117 : World) (hS118 : St w0 Z60 (xblk b5 70 (enc_api_Tally (⟨0,0,0,0⟩ : api_Tally))::xrow A113 c114 84 49 (t112.flatMap enc_api_Final)::xblk b101 70 (enc_api_Tally t116)::xblk ba0_1c0 33 ([.pointer (some ⟨ba0_1c0v,0,none⟩)])::xblk ba0_1c0v 49 ([.map (some ba0_1c0vv_0),.map (some ba0_1c0vv_1),.map (some ba0_1c0vv_2),.bool t18])::xmap ba0_1c0vv_0 (t19.map (kv Value.string (Value.int .i64)))::xmap ba0_1c0vv_1 (t20.map (kv Value.string (Value.int .i64)))::xmap ba0_1c0vv_2 (t21.map (kv Value.string (Value.int .i64)))::xblk ba0_1c1 26 ([.slice Aa0_1c1v_0 a0_1c1v.Next.length ca0_1c1v_0,.slice Aa0_1c1v_1 a0_1c1v.End.length ca0_1c1v_1,.slice Aa0_1c1v_2 a0_1c1v.Value.length ca0_1c1v_2,.int .i64 a0_1c1v.Start])::fs) w117),Runs Try.prog (fx 23) td152 (fill (mk 70 [(5,.pointer (some ⟨b5,0,none⟩)),(8,.slice A113 t112.length c114),(9,.pointer (some ⟨b101,0,none⟩))]) l120) w117 R:=by
   intro t112 t116 he121 l120 A113 c114 w117 hS118
   subst he121
   try dsimp only at hp111
   refine sR 1 [.code (cd23 [1,1,1,1,1,1,0]),.code (cd23 [1,1,1,1,1,1,1])] ?_
   have hS122:=hS118.pick2
   have hS123:=hS122.pick2
   have hS124:=hS123.pick2
   generalize hg126 : (xblk ba0_1c0 33 ([.pointer (some ⟨ba0_1c0v,0,none⟩)])::xblk ba0_1c0v 49 ([.map (some ba0_1c0vv_0),.map (some ba0_1c0vv_1),.map (some ba0_1c0vv_2),.bool t18])::xmap ba0_1c0vv_0 (t19.map (kv Value.string (Value.int .i64)))::xmap ba0_1c0vv_1 (t20.map (kv Value.string (Value.int .i64)))::xmap ba0_1c0vv_2 (t21.map (kv Value.string (Value.int .i64)))::xblk ba0_1c1 26 ([.slice Aa0_1c1v_0 a0_1c1v.Next.length ca0_1c1v_0,.slice Aa0_1c1v_1 a0_1c1v.End.length ca0_1c1v_1,.slice Aa0_1c1v_2 a0_1c1v.Value.length ca0_1c1v_2,.int .i64 a0_1c1v.Start])::fs) = gs125 at hS124
   obtain ⟨t127,hr128,hp129⟩:=bind_some' hp111
   refine r_drawnP (S:=Option (Option Addr × Nat) × Option Unit) (dn:=(fun (st : Option (Option Addr × Nat) × Option Unit) k => [st.1.isSome,st.2.isSome].getD k true)) (C:=(fun st w' => match st with | (none,none) => St w0 Z60 (xblk b5 70 (enc_api_Tally (⟨0,0,0,0⟩ : api_Tally))::xrow A113 c114 84 49 (t112.flatMap enc_api_Final)::xblk b101 70 (enc_api_Tally t116)::gs125) w' | (none,some _) => False | (some x130,none) => St w0 Z60 (xrow x130.1 x130.2 84 49 (t127.flatMap enc_api_Final)::xblk b5 70 (enc_api_Tally (⟨0,0,0,0⟩ : api_Tally))::xrow A113 c114 84 49 (t112.flatMap enc_api_Final)::xblk b101 70 (enc_api_Tally t116)::gs125) w' | (some x130,some _) => St w0 Z60 (xblk b5 70 (enc_api_Tally t116)::xrow x130.1 x130.2 84 49 (t127.flatMap enc_api_Final)::xrow A113 c114 84 49 (t112.flatMap enc_api_Final)::xblk b101 70 (enc_api_Tally t116)::gs125) w')) (v:=(fun st => match st with | (none,none) => [.slice A113 t112.length c114,undef,.agg (enc_api_Tally t116).toArray,undef,undef,undef] | (none,some _) => [.slice A113 t112.length c114,undef,.agg (enc_api_Tally t116).toArray,undef,undef,undef] | (some x130,none) => [.slice A113 t112.length c114,.slice x130.1 t127.length x130.2,.agg (enc_api_Tally t116).toArray,.slice x130.1 t127.length x130.2,undef,undef] | (some x130,some _) => [.slice A113 t112.length c114,.slice x130.1 t127.length x130.2,.agg (enc_api_Tally t116).toArray,.slice x130.1 t127.length x130.2,undef,.int .i64 0])) (c:=(cd23 [1,1,1,1,1,1,0])) (id:=15) (none,none) 4 6 [1,4] [[],[],[],[0],[0],[0,1]] [[0,1],[1],[1],[1],[],[]] [] [true,true,true,true,true,true] (by kernel_rfl) (by kernel_rfl) (by kernel_rfl) (by kernel_rfl) (by kernel_rfl) (by kernel_rfl) (by kernel_rfl) (by kernel_rfl) (by kernel_rfl) (fun k hk => match k,hk with | 0,_ => rfl | 1,_ => rfl | k + 2,hk => absurd hk (by simp)) hS124.drew ?_ (fun k hk => match k,hk with | 0,_ => rfl | 1,_ => rfl | k + 2,hk => absurd hk (by simp)) ?_ ?_ ?_
   ·intro i hi st w hC hd
    match i,hi with
    | 0,_ => (show _ = _; kernel_rfl)
    | 1,_ => (show _ = _; kernel_rfl)
    | 2,_ => (show _ = _; kernel_rfl)
    | 3,_ => (show _ = _; kernel_rfl)
    | 4,_ => (show _ = _; kernel_rfl)
    | 5,_ => (show _ = _; kernel_rfl)
    | i + 6,hi => exact absurd hi (by omega)
   ·intro i hi he st w hC hd hu
    match i,hi,he with
    | 0,_,_ =>
     rcases st with ⟨_ | x130,_ | _⟩
     ·dsimp only at hC
      exact dG (.slice A113 t112.length c114) hC
     ·exact False.elim hC
     ·exact Bool.noConfusion (hu 0 (by decide))
     ·exact Bool.noConfusion (hu 0 (by decide))
    | 1,_,he => exact absurd he (by decide)
    | 2,_,_ =>
     rcases st with ⟨_ | x130,_ | _⟩
     ·dsimp only at hC
      exact ⟨fun _ => does_run (x_load (t:=70) (x:=(.tmp 9)) (p:=⟨b101,0,none⟩) (v:=.agg (enc_api_Tally t116).toArray) (by kernel_rfl) (loads_agg (hC.blk 2 rfl) (by kernel_rfl) (by kernel_rfl)) (by kernel_rfl)) rfl hC,fun h => absurd h (by decide)⟩
     ·exact False.elim hC
     ·dsimp only at hC
      exact ⟨fun _ => does_run (x_load (t:=70) (x:=(.tmp 9)) (p:=⟨b101,0,none⟩) (v:=.agg (enc_api_Tally t116).toArray) (by kernel_rfl) (loads_agg (hC.blk 3 rfl) (by kernel_rfl) (by kernel_rfl)) (by kernel_rfl)) rfl hC,fun h => absurd h (by decide)⟩
     ·exact Bool.noConfusion (hu 1 (by decide))
    | 3,_,_ =>
     rcases st with ⟨_ | x130,_ | _⟩
     ·exact Bool.noConfusion (hd 0 (by decide))
     ·exact False.elim hC
     ·dsimp only at hC
      exact dG (.slice x130.1 t127.length x130.2) hC
     ·exact Bool.noConfusion (hu 1 (by decide))
    | 4,_,he => exact absurd he (by decide)
    | 5,_,_ =>
     rcases st with ⟨_ | x130,_ | _⟩
     ·exact Bool.noConfusion (hd 0 (by decide))
     ·exact False.elim hC
     ·exact Bool.noConfusion (hd 1 (by decide))
     ·dsimp only at hC
      exact dG (.int .i64 0) hC
    | i + 6,hi,_ => exact absurd hi (by omega)
   ·intro k hk st w hC hr hm
    match k,hk with
    | 0,_ =>
     rcases st with ⟨_ | x130,_ | _⟩
     ·dsimp only at hC
      have hS158:=hC.pick1
      obtain ⟨Z159,hz160,hS161,hs162,hb163⟩:=hS158.lendrow len_api_Final (by omega)
      refine does_call (g:=43) (args:=#[.slice A113 t112.length c114]) (by kernel_rfl) (weirref10_Sort.ok hr128 hS161 hs162) ?_
      rintro e w2 ⟨m164,m165,rfl,h2⟩
      refine ⟨_,rfl,?_⟩
      have hS166:=hb163 _ _ h2
      have hS167:=hS166.pick3
      have hS168:=hS167.pick1
      have hS169:=hS168.pick3
      have hS170:=hS169.pick3
      have h2:=hS170
      have h2:=h2.pick3
      have h2:=h2.pick3
      have h2:=h2.pick3
      have h2:=h2.pick3
      refine ⟨(some (m164,m165),none),rfl,?_,?_,.inr rfl,h2⟩
      ·intro m hne; match m,hne with
       | 0,hne => exact absurd rfl hne
       | 1,hne => exact rfl
       | m + 2,_ => exact rfl
      ·intro j hj; match j,hj with
       | 0,hj => exact rfl
       | 1,hj => exact absurd (by decide) hj
       | 2,hj => exact rfl
       | 3,hj => exact absurd (by decide) hj
       | 4,hj => exact absurd (by decide) hj
       | 5,hj => exact absurd (by decide) hj
       | j + 6,_ => exact rfl
     ·exact False.elim hC
     ·exact Bool.noConfusion hr
     ·exact Bool.noConfusion hr
    | 1,_ =>
     rcases st with ⟨_ | x130,_ | _⟩
     ·exact Bool.noConfusion (hm 0 (by decide))
     ·exact False.elim hC
     ·dsimp only at hC
      have hC:=hC.pick1
      refine dSG 70 (.tmp 5) (.tmp 69) 0 (.agg (enc_api_Tally t116).toArray) (enc_api_Tally t116) (enc_api_Tally t116) hC (one_api_Tally _) ?_
      intro w2 h2
      have h2:=h2.pick3
      have h2:=h2.pick3
      have h2:=h2.pick3
      have h2:=h2.pick3
      refine ⟨(some x130,some ()),rfl,?_,?_,.inl rfl,h2⟩
      ·intro m hne; match m,hne with
       | 0,hne => exact rfl
       | 1,hne => exact absurd rfl hne
       | m + 2,_ => exact rfl
      ·intro j hj; match j,hj with
       | 0,hj => exact rfl
       | 1,hj => exact rfl
       | 2,hj => exact rfl
       | 3,hj => exact rfl
       | 4,hj => exact absurd (by decide) hj
       | 5,hj => exact absurd (by decide) hj
       | j + 6,_ => exact rfl
     ·exact Bool.noConfusion hr
    | k + 2,hk => exact absurd hk (by simp)
   intro st174 w171 hS172 hr173
   rcases st174 with ⟨_ | x130,_ | _⟩
   ·exact Bool.noConfusion (hr173 0 (Nat.lt_of_sub_eq_succ rfl))
   ·exact Bool.noConfusion (hr173 0 (Nat.lt_of_sub_eq_succ rfl))
   ·exact Bool.noConfusion (hr173 1 (Nat.lt_of_sub_eq_succ rfl))
   replace hS172 : St w0 Z60 (xblk b5 70 (enc_api_Tally t116)::xrow x130.1 x130.2 84 49 (t127.flatMap enc_api_Final)::xrow A113 c114 84 49 (t112.flatMap enc_api_Final)::xblk b101 70 (enc_api_Tally t116)::gs125) w171:=hS172
   subst hg126
   have hS175:=hS172.drop
   have hS176:=hS175.pick1
   have hS177:=hS176.drop
   have hS178:=hS177.pick1
   have hS179:=hS178.drop
   have hS180:=hS179.less hz61
   refine rRc (.tuple #[.slice x130.1 t127.length x130.2,.agg (enc_api_Tally t116).toArray,.int .i64 0]) (.tm 4 (.ca 5 70 (hS172.blk 0 rfl) (.tm 6 .nil))) Try.func23 ?_
   cases Option.some.inj hp129
   exact hR _ _ ⟨x130.1,x130.2,rfl,hS180⟩
  have L196 : ∀ (t182 : List api_Final) (t186 : Int) (t187 : api_Tally) (e191 : ((List api_Final) × api_Tally)),weirref14_Explore.l0 t9 t11 t12 t13 t182 t186 t187 = some e191 → e191 = v109 → ∀ (l190 : List Value) (A183 : Option Addr) (c184 : Nat) (w188 : World) (hS189 : St w0 Z60 (xblk b5 70 (enc_api_Tally (⟨0,0,0,0⟩ : api_Tally))::xblk b64 43 ([.slice Q22 t9.length Q23,.slice Q24 t10.length Q25,.slice Q26 t11.length Q27,.slice Q29 t12.length Q30,.slice Q31 t13.length Q32,.slice Q33 t14.length Q34,.slice Q35 t15.length Q36,.bool t16,.map (some Q37)])::xrow Q22 Q23 9 1 (t9.flatMap encS)::xrow Q24 Q25 3 1 (t10.flatMap (encI .i64))::xrow Q29 Q30 4 1 (t12.flatMap encB)::xrow Q31 Q32 84 49 (t13.flatMap enc_api_Final)::xrow Q33 Q34 3 1 (t14.flatMap (encI .i64))::xrow Q35 Q36 88 3 (t15.flatMap enc_api_Pick)::xmap Q37 (t17.map (kv Value.string (Value.int .i64)))::xrow A183 c184 84 49 (t182.flatMap enc_api_Final)::xblk b101 70 (enc_api_Tally t187)::xblk ba0_1c0 33 ([.pointer (some ⟨ba0_1c0v,0,none⟩)])::xblk ba0_1c0v 49 ([.map (some ba0_1c0vv_0),.map (some ba0_1c0vv_1),.map (some ba0_1c0vv_2),.bool t18])::xmap ba0_1c0vv_0 (t19.map (kv Value.string (Value.int .i64)))::xmap ba0_1c0vv_1 (t20.map (kv Value.string (Value.int .i64)))::xmap ba0_1c0vv_2 (t21.map (kv Value.string (Value.int .i64)))::xblk ba0_1c1 26 ([.slice Aa0_1c1v_0 a0_1c1v.Next.length ca0_1c1v_0,.slice Aa0_1c1v_1 a0_1c1v.End.length ca0_1c1v_1,.slice Aa0_1c1v_2 a0_1c1v.Value.length ca0_1c1v_2,.int .i64 a0_1c1v.Start])::fs) w188),Runs Try.prog (fx 23) td155 (fill (mk 70 [(5,.pointer (some ⟨b5,0,none⟩)),(7,.pointer (some ⟨b64,0,none⟩)),(8,.slice A183 t182.length c184),(9,.pointer (some ⟨b101,0,none⟩)),(10,.int .i64 t186)]) l190) w188 R:=by
   refine weirref14_Explore.l0.partial_correctness t9 t11 t12 t13 (fun t182 t186 t187 e191 => e191 = v109 → ∀ (l190 : List Value) (A183 : Option Addr) (c184 : Nat) (w188 : World) (hS189 : St w0 Z60 (xblk b5 70 (enc_api_Tally (⟨0,0,0,0⟩ : api_Tally))::xblk b64 43 ([.slice Q22 t9.length Q23,.slice Q24 t10.length Q25,.slice Q26 t11.length Q27,.slice Q29 t12.length Q30,.slice Q31 t13.length Q32,.slice Q33 t14.length Q34,.slice Q35 t15.length Q36,.bool t16,.map (some Q37)])::xrow Q22 Q23 9 1 (t9.flatMap encS)::xrow Q24 Q25 3 1 (t10.flatMap (encI .i64))::xrow Q29 Q30 4 1 (t12.flatMap encB)::xrow Q31 Q32 84 49 (t13.flatMap enc_api_Final)::xrow Q33 Q34 3 1 (t14.flatMap (encI .i64))::xrow Q35 Q36 88 3 (t15.flatMap enc_api_Pick)::xmap Q37 (t17.map (kv Value.string (Value.int .i64)))::xrow A183 c184 84 49 (t182.flatMap enc_api_Final)::xblk b101 70 (enc_api_Tally t187)::xblk ba0_1c0 33 ([.pointer (some ⟨ba0_1c0v,0,none⟩)])::xblk ba0_1c0v 49 ([.map (some ba0_1c0vv_0),.map (some ba0_1c0vv_1),.map (some ba0_1c0vv_2),.bool t18])::xmap ba0_1c0vv_0 (t19.map (kv Value.string (Value.int .i64)))::xmap ba0_1c0vv_1 (t20.map (kv Value.string (Value.int .i64)))::xmap ba0_1c0vv_2 (t21.map (kv Value.string (Value.int .i64)))::xblk ba0_1c1 26 ([.slice Aa0_1c1v_0 a0_1c1v.Next.length ca0_1c1v_0,.slice Aa0_1c1v_1 a0_1c1v.End.length ca0_1c1v_1,.slice Aa0_1c1v_2 a0_1c1v.Value.length ca0_1c1v_2,.int .i64 a0_1c1v.Start])::fs) w188),Runs Try.prog (fx 23) td155 (fill (mk 70 [(5,.pointer (some ⟨b5,0,none⟩)),(7,.pointer (some ⟨b64,0,none⟩)),(8,.slice A183 t182.length c184),(9,.pointer (some ⟨b101,0,none⟩)),(10,.int .i64 t186)]) l190) w188 R) ?_
   intro rec195 ih194 t182 t186 t187 e191 hb193 he192 l190 A183 c184 w188 hS189
   refine sR 5 (.inRegion (opsOf p23_15) [2,3,4]::.code p23_16::.code p23_17::td154) ?_
   refine rL1 36 (.tmp 23) 0 (hS189.blk 1 rfl) ?_
   refine sI 2 (.inRegion (opsOf p23_15) []::.code p23_16::.code p23_17::td154) 26 hb193 (fun hp199 => ?_) fun hp320 => ?_
   ·refine sR 6 (.code p23_18::.code (cd23 [1,1,1,1,1,0,1,0,0,1,0,0,1])::td157) ?_
    refine r_drawn3 (C:=St w0 Z60 (xblk b5 70 (enc_api_Tally (⟨0,0,0,0⟩ : api_Tally))::xblk b64 43 ([.slice Q22 t9.length Q23,.slice Q24 t10.length Q25,.slice Q26 t11.length Q27,.slice Q29 t12.length Q30,.slice Q31 t13.length Q32,.slice Q33 t14.length Q34,.slice Q35 t15.length Q36,.bool t16,.map (some Q37)])::xrow Q22 Q23 9 1 (t9.flatMap encS)::xrow Q24 Q25 3 1 (t10.flatMap (encI .i64))::xrow Q29 Q30 4 1 (t12.flatMap encB)::xrow Q31 Q32 84 49 (t13.flatMap enc_api_Final)::xrow Q33 Q34 3 1 (t14.flatMap (encI .i64))::xrow Q35 Q36 88 3 (t15.flatMap enc_api_Pick)::xmap Q37 (t17.map (kv Value.string (Value.int .i64)))::xrow A183 c184 84 49 (t182.flatMap enc_api_Final)::xblk b101 70 (enc_api_Tally t187)::xblk ba0_1c0 33 ([.pointer (some ⟨ba0_1c0v,0,none⟩)])::xblk ba0_1c0v 49 ([.map (some ba0_1c0vv_0),.map (some ba0_1c0vv_1),.map (some ba0_1c0vv_2),.bool t18])::xmap ba0_1c0vv_0 (t19.map (kv Value.string (Value.int .i64)))::xmap ba0_1c0vv_1 (t20.map (kv Value.string (Value.int .i64)))::xmap ba0_1c0vv_2 (t21.map (kv Value.string (Value.int .i64)))::xblk ba0_1c1 26 ([.slice Aa0_1c1v_0 a0_1c1v.Next.length ca0_1c1v_0,.slice Aa0_1c1v_1 a0_1c1v.End.length ca0_1c1v_1,.slice Aa0_1c1v_2 a0_1c1v.Value.length ca0_1c1v_2,.int .i64 a0_1c1v.Start])::fs)) (c:=p23_18) (id:=9) (by kernel_rfl) (by kernel_rfl) 10 (Nat.le_of_ble_eq_true (by kernel_rfl)) (by kernel_rfl) (by kernel_rfl) (by kernel_rfl) (is:=[0,1,2,3,4,5,6,7,8,9]) (rest:=[10]) (by kernel_rfl) (by kernel_rfl) hS189.drew ?_
    refine qR 1 (rg 1 9) ?_
    refine qL1 3 (.tmp 29) 1 (fun w hC => (hC.blk 10 rfl)) ?_
    refine qR 1 (rg 3 7) ?_
    refine qL1 38 (.tmp 31) 2 (fun w hC => (hC.blk 1 rfl)) ?_
    refine qR 1 (rg 5 5) ?_
    obtain ⟨g200,hp201⟩:=ite_some hp199
    obtain ⟨b202,p203,cs206,hA204,hr207,hl208,hc205⟩:=hs63.at_ g200.1 g200.2
    obtain ⟨A209,c210,rfl,hs211⟩:=hr207
    refine q_indexAddr (c:=(hd p23_18 10)) (i:=5) (d:=(some 34)) (ty:=0) (t:=38) (e:=93) (n:=t11.length) (cp:=Q27) (sz:=1) (kk:=.i64) (x:=(.tmp 32)) (y:=(.tmp 33)) (b:=b202) (o':=p203) (j:=t186) (by kernel_rfl) (by kernel_rfl) (slv (by kernel_rfl) hA204) (by kernel_rfl) (by kernel_rfl) (by kernel_rfl) g200.1 g200.2 ?_
    refine qL1 93 (.tmp 34) 0 (fun w hC => (hc205.cells hC)) ?_
    refine qR 3 [] ?_
    refine Qs.nil ?_
    intro w213 hS214
    have hS215:=hS214.pick10
    refine rS 3 (.tmp 38) (.tmp 37) 1 (.int .i64 (IntKind.i64.wrap (t187.Moves + ((gt t11 t186).length : Int)))) [.int .i64 (IntKind.i64.wrap (t187.Moves + ((gt t11 t186).length : Int)))] (enc_api_Tally (⟨t187.States,(IntKind.i64.wrap (t187.Moves + ((gt t11 t186).length : Int))),t187.Ends,t187.Stuck⟩ : api_Tally)) hS215 ?_
    intro w216 hS217
    refine sR 4 (iR p23_21 1 4::.code p23_22::td157) ?_
    refine rL1 23 (.tmp 39) 3 (hS217.blk 2 rfl) ?_
    refine sR 1 (.inRegion (opsOf p23_21) [3,4]::.code p23_22::td157) ?_
    obtain ⟨g218,hp219⟩:=ite_some hp201
    obtain ⟨b220,p221,hA222,-⟩:=(hS217.row 5 rfl).at_ len_encB (by omega) g218.1 g218.2
    refine r_indexAddr (c:=p23_21) (i:=3) (d:=(some 42)) (ty:=0) (t:=23) (e:=4) (n:=t12.length) (cp:=Q30) (sz:=1) (kk:=.i64) (x:=(.tmp 40)) (y:=(.tmp 41)) (b:=b220) (o':=p221) (j:=t186) (by kernel_rfl) (by kernel_rfl) (slv (by kernel_rfl) hA222) (by kernel_rfl) (by kernel_rfl) (by kernel_rfl) g218.1 g218.2 ?_
    refine rL1 4 (.tmp 42) 0 ((hS217.row 5 rfl).at2 hA222 len_encB (by omega) g218.1 g218.2) ?_
    refine r_split (gt t12 t186) (fun h224 => ?_) (fun h225 => ?_)
    ·have hp226:=ite_t hp219 h224
     refine sR 5 (iR p23_23 1 4::.code p23_24::td157) ?_
     refine rL1 3 (.tmp 44) 2 (hS217.blk 0 rfl) ?_
     refine sR 2 (.inRegion (opsOf p23_23) [4]::.code p23_24::td157) ?_
     refine rS 3 (.tmp 47) (.tmp 46) 2 (.int .i64 (IntKind.i64.wrap (t187.Ends + 1))) [.int .i64 (IntKind.i64.wrap (t187.Ends + 1))] (enc_api_Tally (⟨t187.States,(IntKind.i64.wrap (t187.Moves + ((gt t11 t186).length : Int))),(IntKind.i64.wrap (t187.Ends + 1)),t187.Stuck⟩ : api_Tally)) hS217 ?_
     intro w227 hS228
     refine sR 4 (iR p23_24 2 7::td157) ?_
     refine rL1 39 (.tmp 49) 4 (hS228.blk 2 rfl) ?_
     refine sR 1 (iR p23_24 4 5::td157) ?_
     obtain ⟨g229,hp230⟩:=ite_some hp226
     obtain ⟨b231,p232,hA233,-⟩:=(hS228.row 6 rfl).at_ len_api_Final (by omega) g229.1 g229.2
     refine r_indexAddr (c:=p23_24) (i:=4) (d:=(some 52)) (ty:=0) (t:=39) (e:=84) (n:=t13.length) (cp:=Q32) (sz:=49) (kk:=.i64) (x:=(.tmp 50)) (y:=(.tmp 51)) (b:=b231) (o':=p232) (j:=t186) (by kernel_rfl) (by kernel_rfl) (slv (by kernel_rfl) hA233) (by kernel_rfl) (by kernel_rfl) (by kernel_rfl) g229.1 g229.2 ?_
     refine rL 84 (.tmp 52) (loads_agg ((hS228.row 6 rfl).at2 hA233 len_api_Final (by omega) g229.1 g229.2) (by kernel_rfl) (lenK (len_api_Final _) (by kernel_rfl))) ?_
     refine r_lit (c:=p23_24) (i:=6) (d:=(some 54)) (ty:=39) (t:=39) (e:=84) (sz:=49) (n:=1) (parts:=#[(0,(.tmp 53))]) (vs:=[(0,.agg (enc_api_Final (gt t13 t186)).toArray)]) (z:=zeroOf Try.prog 84) (cs':=([(gt t13 t186)] : List api_Final).flatMap enc_api_Final) hS228 (by kernel_rfl) (by kernel_rfl) (by kernel_rfl) (by kernel_rfl) (by kernel_rfl) (by decide) (by decide) (by kernel_rfl) rfl (Parts.cons (c:=enc_api_Final (gt t13 t186)) (by kernel_rfl) (len_api_Final _) Parts.nil) rfl ?_
     intro b236 w237 hS238
     have hS239:=hS238.pick11
     obtain ⟨g240,hp241⟩:=ite_some hp230
     refine r_append (c:=p23_24) (i:=7) (d:=(some 55)) (ty:=39) (enc:=enc_api_Final) (e:=84) (u:=84) (t:=39) (t2:=39) (sz:=49) (cp:=c184) (A:=A183) (bytes:=392) (xs:=t182) (ys:=([(gt t13 t186)] : List api_Final)) (s:=(.tmp 48)) (x:=(.tmp 54)) (xv:=.slice (some ⟨b236,0,none⟩) ([(gt t13 t186)] : List api_Final).length 1) (info:=infoOf Try.prog 84) (z:=zeroOf Try.prog 84) (ycs:=([(gt t13 t186)] : List api_Final).flatMap enc_api_Final) hS239 (by kernel_rfl) (by kernel_rfl) (by kernel_rfl) (by kernel_rfl) (by kernel_rfl) (.inl (by kernel_rfl)) (by kernel_rfl) (by kernel_rfl) (by kernel_rfl) (by kernel_rfl) (by kernel_rfl) (by omega) len_api_Final one_api_Final (src_row (hS239.row 1 rfl) (by omega) len_api_Final) rfl g240 (by omega) ?_
     intro A242 c243 w244 hS245
     refine sR 8 td154 ?_
     have hS247:=hS245.pick1
     have hS248:=hS247.drop
     have hS249:=hS248.pick16
     have hS250:=hS249.pick16
     have hS251:=hS250.pick16
     have hS252:=hS251.pick16
     have hS253:=hS252.pick16
     have hS254:=hS253.pick16
     have hS255:=hS254.pick7
     have hS256:=hS255.pick7
     have hS257:=hS256.pick16
     have hS258:=hS257.pick16
     have hS259:=hS258.pick16
     have hS260:=hS259.pick16
     have hS261:=hS260.pick16
     have hS262:=hS261.pick16
     have hS263:=hS262.pick16
     have hS264:=hS263.pick16
     have hS265:=hS264.pick16
     refine sR 1 td155 ?_
     exact rF _ (ih194 (t182 ++ ([(gt t13 t186)] : List api_Final)) (IntKind.i64.wrap (t186 + 1)) (⟨t187.States,(IntKind.i64.wrap (t187.Moves + ((gt t11 t186).length : Int))),(IntKind.i64.wrap (t187.Ends + 1)),t187.Stuck⟩ : api_Tally) _ hp241 he192 _ A242 c243 _ hS265)
    have hp266:=ite_f hp219 h225
    refine sR 5 (iR p23_25 1 6::td158) ?_
    refine rL1 38 (.tmp 56) 2 (hS217.blk 2 rfl) ?_
    refine sR 1 (iR p23_25 3 4::td158) ?_
    obtain ⟨g267,hp268⟩:=ite_some hp266
    obtain ⟨b269,p270,cs273,hA271,hr274,hl275,hc272⟩:=hs63.at_ g267.1 g267.2
    obtain ⟨A276,c277,rfl,hs278⟩:=hr274
    refine r_indexAddr (c:=p23_25) (i:=3) (d:=(some 59)) (ty:=0) (t:=38) (e:=93) (n:=t11.length) (cp:=Q27) (sz:=1) (kk:=.i64) (x:=(.tmp 57)) (y:=(.tmp 58)) (b:=b269) (o':=p270) (j:=t186) (by kernel_rfl) (by kernel_rfl) (slv (by kernel_rfl) hA271) (by kernel_rfl) (by kernel_rfl) (by kernel_rfl) g267.1 g267.2 ?_
    refine rL1 93 (.tmp 59) 0 (hc272.cells hS217) ?_
    refine sI 2 (.inRegion (opsOf p23_25) []::td158) 62 hp268 (fun hp282 => ?_) fun hp302 => ?_
    ·refine sR 4 (iR p23_27 1 4::td157) ?_
     refine rL1 3 (.tmp 63) 3 (hS217.blk 0 rfl) ?_
     refine sR 2 (.inRegion (opsOf p23_27) [4]::td157) ?_
     refine rS 3 (.tmp 66) (.tmp 65) 3 (.int .i64 (IntKind.i64.wrap (t187.Stuck + 1))) [.int .i64 (IntKind.i64.wrap (t187.Stuck + 1))] (enc_api_Tally (⟨t187.States,(IntKind.i64.wrap (t187.Moves + ((gt t11 t186).length : Int))),t187.Ends,(IntKind.i64.wrap (t187.Stuck + 1))⟩ : api_Tally)) hS217 ?_
     intro w283 hS284
     refine sR 7 td154 ?_
     have hS285:=hS284.pick16
     have hS286:=hS285.pick16
     have hS287:=hS286.pick16
     have hS288:=hS287.pick16
     have hS289:=hS288.pick16
     have hS290:=hS289.pick16
     have hS291:=hS290.pick6
     have hS292:=hS291.pick16
     have hS293:=hS292.pick16
     have hS294:=hS293.pick16
     have hS295:=hS294.pick16
     have hS296:=hS295.pick16
     have hS297:=hS296.pick16
     have hS298:=hS297.pick16
     have hS299:=hS298.pick16
     have hS300:=hS299.pick16
     have hS301:=hS300.pick16
     refine sR 1 td155 ?_
     exact rF _ (ih194 (id t182) (IntKind.i64.wrap (t186 + 1)) (⟨t187.States,(IntKind.i64.wrap (t187.Moves + ((gt t11 t186).length : Int))),t187.Ends,(IntKind.i64.wrap (t187.Stuck + 1))⟩ : api_Tally) _ hp282 he192 _ A183 c184 _ hS301)
    refine sR 9 td154 ?_
    have hS303:=hS217.pick16
    have hS304:=hS303.pick16
    have hS305:=hS304.pick16
    have hS306:=hS305.pick16
    have hS307:=hS306.pick16
    have hS308:=hS307.pick16
    have hS309:=hS308.pick6
    have hS310:=hS309.pick16
    have hS311:=hS310.pick16
    have hS312:=hS311.pick16
    have hS313:=hS312.pick16
    have hS314:=hS313.pick16
    have hS315:=hS314.pick16
    have hS316:=hS315.pick16
    have hS317:=hS316.pick16
    have hS318:=hS317.pick16
    have hS319:=hS318.pick16
    refine sR 1 td155 ?_
    exact rF _ (ih194 (id t182) (IntKind.i64.wrap (t186 + 1)) (⟨t187.States,(IntKind.i64.wrap (t187.Moves + ((gt t11 t186).length : Int))),t187.Ends,t187.Stuck⟩ : api_Tally) _ hp302 he192 _ A183 c184 _ hS319)
   refine sR 3 td152 ?_
   have hS321:=hS189.pick1
   have hS322:=hS321.drop
   have hS323:=hS322.pick1
   have hS324:=hS323.drop
   have hS325:=hS324.pick1
   have hS326:=hS325.drop
   have hS327:=hS326.pick1
   have hS328:=hS327.drop
   have hS329:=hS328.pick1
   have hS330:=hS329.drop
   have hS331:=hS330.pick1
   have hS332:=hS331.drop
   have hS333:=hS332.pick1
   have hS334:=hS333.drop
   have hS335:=hS334.pick1
   have hS336:=hS335.drop
   exact rF _ (J119 t182 t187 ((Option.some.inj hp320).trans he192) _ A183 c184 _ hS336)
  have hS338:=hS108.nilrow none 84 49
  have hS339:=hS338.pick15
  have hS340:=hS339.pick15
  have hS341:=hS340.pick15
  have hS342:=hS341.pick15
  have hS343:=hS342.pick15
  have hS344:=hS343.pick15
  have hS345:=hS344.pick7
  have hS346:=hS345.pick7
  have hS347:=hS346.pick15
  have hS348:=hS347.pick15
  have hS349:=hS348.pick15
  have hS350:=hS349.pick15
  have hS351:=hS350.pick15
  have hS352:=hS351.pick15
  have hS353:=hS352.pick15
  have hS354:=hS353.pick15
  have hS355:=hS354.pick16
  exact rF _ (L196 [] 0 (⟨(t9.length : Int),0,0,0⟩ : api_Tally) _ hv110 rfl _ none 0 _ hS355)

noncomputable def cd24 (p : List Nat) : Code := sub (bodyOf Try.f24) p
abbrev p24_10:=cd24 [1,1,0,1,0,0,1,0,0,0]
abbrev td159:List Item:=[.code (cd24 [1,1,1])]
abbrev td160:List Item:=.inBlock 0::td159
abbrev td161:List Item:=.inLoop (cd24 [1,1,0,1,0,0])::td160
abbrev td162:List Item:=.code (cd24 [1,1,0,1,0,0])::td161
def weirlaw14_sameFinals.l0 (a0 a1 : List api_Final) (t16 : Int) : Option (Sum Unit Bool) :=
  (if (decide (t16 < (a0.length : Int))) = true then (if 0 ≤ t16 ∧ t16 < (a0.length : Int) then (if 0 ≤ t16 ∧ t16 < (a1.length : Int) then (if (!(decide ((gt a0 t16) = (gt a1 t16)))) = true then some (.inr (false)) else (weirlaw14_sameFinals.l0 a0 a1 (IntKind.i64.wrap (t16 + 1)))) else none) else none) else some (.inl ()))
 partial_fixpoint
def weirlaw14_sameFinals.f (a0 a1 : List api_Final) : Option Bool :=
  (if ((a0.length : Int) != (a1.length : Int)) = true then some (false) else (weirlaw14_sameFinals.l0 a0 a1 0 >>= (fun | .inl () => some (true) | .inr e => some e)))
theorem weirlaw14_sameFinals.ok {a0 a1 : List api_Final} {Aa0 : Option Addr} {ca0 : Nat} {Aa1 : Option Addr} {ca1 : Nat} {q0 : Bool} (hp0 : weirlaw14_sameFinals.f a0 a1 = some q0) (hS0 : St w0 Z (fs) w) (ha0 : SlZ (flat enc_api_Final) 49 Z Aa0 ca0 a0) (ha1 : SlZ (flat enc_api_Final) 49 Z Aa1 ca1 a1) :
    Calls Try.prog 24 #[.slice Aa0 a0.length ca0,.slice Aa1 a1.length ca1] w (fun e w' => e = .returned (.bool q0) ∧ St w0 Z (fs) w'):=by
  refine calls_abs ?_; intro R hR
  unfold weirlaw14_sameFinals.f at hp0
  refine calls_of_runs (fn:=Try.f24) (c:=cd24 []) Try.func24 (by kernel_rfl) (al:=[.slice Aa0 a0.length ca0,.slice Aa1 a1.length ca1]) rfl (n:=24) rfl ?_
  refine sI 12 [.inRegion (opsOf (cd24 [1,0,0])) [],.code (cd24 [1,0,1]),.code (cd24 [1,1])] 10 hp0 (fun hp3 => ?_) fun hp5 => ?_
  ·refine sR 6 [.code (cd24 [1,0,1,0,1]),.code (cd24 [1,1])] ?_
   refine rR (.bool false) Try.func24 ?_
   cases Option.some.inj hp3
   exact hR _ _ ⟨rfl,hS0⟩
  refine sR 10 td162 ?_
  obtain ⟨v6,hv7,hp8⟩:=bind_some' hp5
  have hq11 : ∀ x,Sum.inr x = v6 → x = q0:=by intro x hx; subst hx; simpa using hp8
  have J12 : ∀ (he14 : Sum.inl () = v6) (l13 : List Value) (w9 : World) (hS10 : St w0 Z (fs) w9),Runs Try.prog (fx 24) td159 (fill (mk 26 []) l13) w9 R:=by
   intro he14 l13 w9 hS10
   subst he14
   try dsimp only at hp8
   refine sR 4 [.code (cd24 [1,1,1,1])] ?_
   refine rR (.bool true) Try.func24 ?_
   cases Option.some.inj hp8
   exact hR _ _ ⟨rfl,hS10⟩
  have L25 : ∀ (t16 : Int) (e20 : Sum Unit Bool),weirlaw14_sameFinals.l0 a0 a1 t16 = some e20 → e20 = v6 → ∀ (l19 : List Value) (w17 : World) (hS18 : St w0 Z (fs) w17),Runs Try.prog (fx 24) td162 (fill (mk 26 [(0,.slice Aa0 a0.length ca0),(1,.slice Aa1 a1.length ca1),(5,.int .i64 t16)]) l19) w17 R:=by
   refine weirlaw14_sameFinals.l0.partial_correctness a0 a1 (fun t16 e20 => e20 = v6 → ∀ (l19 : List Value) (w17 : World) (hS18 : St w0 Z (fs) w17),Runs Try.prog (fx 24) td162 (fill (mk 26 [(0,.slice Aa0 a0.length ca0),(1,.slice Aa1 a1.length ca1),(5,.int .i64 t16)]) l19) w17 R) ?_
   intro rec24 ih23 t16 e20 hb22 he21 l19 w17 hS18
   have hq26 : ∀ x,Sum.inr x = e20 → x = q0:=fun x hx => hq11 x (hx.trans he21)
   refine sI 7 (.inRegion (opsOf (cd24 [1,1,0,1,0,0,0,0])) []::.code (cd24 [1,1,0,1,0,0,0,1])::.code (cd24 [1,1,0,1,0,0,1])::td161) 14 hb22 (fun hp29 => ?_) fun hp51 => ?_
   ·refine sR 6 (.code p24_10::.code (cd24 [1,1,0,1,0,0,1,0,0,1])::.inBlock 1::.code (cd24 [1,1,0,1,0,0,1,1])::td161) ?_
    refine r_quiet hS18 (c:=p24_10) (id:=6) (by kernel_rfl) (by kernel_rfl) (by kernel_rfl) (is:=[0,1,2,3,4,5,6,7,8]) (by kernel_rfl) ?_
    refine qR 2 (rg 2 7) ?_
    obtain ⟨g30,hp31⟩:=ite_some hp29
    obtain ⟨b32,p33,hA34,hc35⟩:=ha0.atF g30.1 g30.2
    refine q_indexAddr (c:=p24_10) (i:=2) (d:=(some 19)) (ty:=0) (t:=39) (e:=84) (n:=a0.length) (cp:=ca0) (sz:=49) (kk:=.i64) (x:=(.tmp 17)) (y:=(.tmp 18)) (b:=b32) (o':=p33) (j:=t16) (by kernel_rfl) (by kernel_rfl) (slv (by kernel_rfl) hA34) (by kernel_rfl) (by kernel_rfl) (by kernel_rfl) g30.1 g30.2 ?_
    refine qL 84 (.tmp 19) (fun w hC => (loads_agg (hc35.cells hC) (by kernel_rfl) (lenK (len_api_Final _) (by kernel_rfl)))) ?_
    refine qR 2 [6,7,8] ?_
    obtain ⟨g36,hp37⟩:=ite_some hp31
    obtain ⟨b38,p39,hA40,hc41⟩:=ha1.atF g36.1 g36.2
    refine q_indexAddr (c:=p24_10) (i:=6) (d:=(some 23)) (ty:=0) (t:=39) (e:=84) (n:=a1.length) (cp:=ca1) (sz:=49) (kk:=.i64) (x:=(.tmp 21)) (y:=(.tmp 22)) (b:=b38) (o':=p39) (j:=t16) (by kernel_rfl) (by kernel_rfl) (slv (by kernel_rfl) hA40) (by kernel_rfl) (by kernel_rfl) (by kernel_rfl) g36.1 g36.2 ?_
    refine qL 84 (.tmp 23) (fun w hC => (loads_agg (hc41.cells hC) (by kernel_rfl) (lenK (len_api_Final _) (by kernel_rfl)))) ?_
    refine qV (.binOp .neq 84 (.tmp 20) (.tmp 24) 84) (.bool (!(decide ((gt a0 t16) = (gt a1 t16))))) (fun w hC o ho _ => x_neq_api_Final (by kernel_rfl) (by kernel_rfl) ho) ?_
    refine q_split (!(decide ((gt a0 t16) = (gt a1 t16)))) (fun h42 => ?_) (fun h43 => ?_)
    ·have hp44:=ite_t hp37 h42
     refine Qs.nil ?_
     intro w45 hS46
     refine sR 5 (.code (cd24 [1,1,0,1,0,0,1,0,0,1,0,1])::.inBlock 1::.code (cd24 [1,1,0,1,0,0,1,1])::td161) ?_
     refine rR (.bool false) Try.func24 ?_
     cases hq26 _ (Option.some.inj hp44)
     exact hR _ _ ⟨rfl,hS46⟩
    have hp48:=ite_f hp37 h43
    refine Qs.nil ?_
    intro w49 hS50
    refine sR 8 td161 ?_
    refine sR 1 td162 ?_
    exact rF _ (ih23 (IntKind.i64.wrap (t16 + 1)) _ hp48 he21 _ _ hS50)
   refine sR 3 td159 ?_
   exact rF _ (J12 ((Option.some.inj hp51).trans he21) _ _ hS18)
  exact rF _ (L25 0 _ hv7 rfl _ _ hS0)

noncomputable def cd19 (p : List Nat) : Code := sub (bodyOf Try.f19) p
def weirlaw14_num.f (a0 : Int) : Option Int :=
  some (a0)
theorem weirlaw14_num.ok {a0 q0 : Int} (hp0 : weirlaw14_num.f a0 = some q0) (hS0 : St w0 Z (fs) w) :
    Calls Try.prog 19 #[.int .i64 a0] w (fun e w' => e = .returned (.int .i64 q0) ∧ St w0 Z (fs) w'):=by
  refine calls_abs ?_; intro R hR
  unfold weirlaw14_num.f at hp0
  refine calls_of_runs (fn:=Try.f19) (c:=cd19 []) Try.func19 (by kernel_rfl) (al:=[.int .i64 a0]) rfl (n:=3) rfl ?_
  refine sR 9 [.code (cd19 [1,1])] ?_
  refine rR (.int .i64 a0) Try.func19 ?_
  cases Option.some.inj hp0
  exact hR _ _ ⟨rfl,hS0⟩

noncomputable def cd6 (p : List Nat) : Code := sub (bodyOf Try.f6) p
abbrev p6_8:=cd6 [1,1,1,0]
abbrev p6_9:=cd6 [1,1,1,1]
abbrev p6_14:=cd6 [1,1,1,1,1,1,0]
abbrev p6_15:=cd6 [1,1,1,1,1,1,1]
abbrev p6_16:=cd6 [1,1,1,1,1,1,1,0]
abbrev td163:List Item:=[.code (cd6 [1,1,1,1,1,1,1,1])]
def weirlaw14_ExploreNets.f (a0 : weirlaw14_Net) (a1 : Int) : Option Bool :=
  (weirlaw14_Net__fine.f a0 >>= (fun t5 => (if (!t5) = true then some (true) else (weirlaw14_Net__machine.f a0 >>= (fun (t16,t17,t18,t19,t20,t21) => (explore_Explore.f t16 t17 t18 t19 t20 t21 a1 >>= (fun (t56,t57,t58,t59,t60,t61,t62) => (weirlaw14_reachable.f a0 >>= (fun t85 => (weirlaw14_Book__within.f t60 t61 t62 t59 t85 >>= (fun (t93,t94) => (weirlaw14_Net__machine.f a0 >>= (fun (t109,t110,t111,t112,t113,t114) => (weirref14_Explore.f t109 t110 t111 t112 t113 t114 (bmin a1 70000) >>= (fun (t149,t150,t151,t152,t153,t154,t155) => (if t93 = true then (weirlaw14_sameFinals.f t56 t149 >>= (fun t201 => (if t201 = true then (if (decide (t57 = t150)) = true then (weirlaw14_num.f t58 >>= (fun t246 => (if (t246 == t151) = true then some (true) else some (false)))) else some (false)) else some (false)))) else some (false)))))))))))))))))
theorem weirlaw14_ExploreNets.ok (a0 : weirlaw14_Net) (a1 : Int) (y0 : Option Addr) (y1 : Nat) (y2 : Option Addr) (y3 : Nat) (y4 : Option Addr) (y5 : Nat) (hS0 : St w0 Z (fs) w) (y6 : SlZ (repL (flat (encI .i64)) 1) 1 Z y0 y1 a0.Next) (y7 : SlZ (flat encB) 1 Z y2 y3 a0.End) (y8 : SlZ (flat (encI .i64)) 1 Z y4 y5 a0.Value) {q0 : Bool} (hp0 : weirlaw14_ExploreNets.f a0 a1 = some q0) :
    Calls Try.prog 6 #[.agg #[.slice y0 a0.Next.length y1,.slice y2 a0.End.length y3,.slice y4 a0.Value.length y5,.int .i64 a0.Start],.int .i64 a1] w (fun e w' => e = .returned (.bool q0) ∧ St w0 Z (fs) w'):=by
  refine calls_abs ?_; intro R hR
  unfold weirlaw14_ExploreNets.f at hp0
  refine calls_of_runs (fn:=Try.f6) (c:=cd6 []) Try.func6 (by kernel_rfl) (al:=[.agg #[.slice y0 a0.Next.length y1,.slice y2 a0.End.length y3,.slice y4 a0.Value.length y5,.int .i64 a0.Start],.int .i64 a1]) rfl (n:=63) rfl ?_
  refine sR 2 [.inRegion (opsOf (cd6 [0])) [0,1],.code (cd6 [1])] ?_
  refine r_box (c:=(cd6 [0])) (i:=0) (d:=(some 2)) (ty:=0) (x:=(.tmp 0)) (v:=.agg #[.slice y0 a0.Next.length y1,.slice y2 a0.End.length y3,.slice y4 a0.Value.length y5,.int .i64 a0.Start]) (t:=26) (cs:=[.slice y0 a0.Next.length y1,.slice y2 a0.End.length y3,.slice y4 a0.Value.length y5,.int .i64 a0.Start]) hS0 (by kernel_rfl) (by kernel_rfl) (by kernel_rfl) (by kernel_rfl) ?_
  intro b1 w2 hS3
  refine sR 5 [.inRegion (opsOf (cd6 [1,0,0])) [0,1,2],.code (cd6 [1,0,1]),.code (cd6 [1,1])] ?_
  refine rLa 26 (.tmp 2) (hS3.blk 0 rfl) ?_
  obtain ⟨t5,hr6,hp7⟩:=bind_some' hp0
  refine rC (weirlaw14_Net__fine.ok hr6 hS3 y6 y7 y8) ?_
  rintro _ w8 ⟨rfl,hS9⟩
  refine ⟨_,rfl,?_⟩
  refine sI 1 [.inRegion (opsOf (cd6 [1,0,0])) [],.code (cd6 [1,0,1]),.code (cd6 [1,1])] 18 hp7 (fun hp12 => ?_) fun hp15 => ?_
  ·refine sR 6 [.code (cd6 [1,0,1,0,1]),.code (cd6 [1,1])] ?_
   have hS13:=hS9.drop
   refine rR (.bool true) Try.func6 ?_
   cases Option.some.inj hp12
   exact hR _ _ ⟨rfl,hS13⟩
  refine sR 5 [iR (cd6 [1,1,0]) 0 8,.code (cd6 [1,1,1])] ?_
  refine rLa 26 (.tmp 2) (hS9.blk 0 rfl) ?_
  obtain ⟨⟨t16,t17,t18,t19,t20,t21⟩,hr34,hp35⟩:=bind_some' hp15
  try dsimp only at hp35
  refine rC (weirlaw14_Net__machine.ok hr34 hS9 y6 y7 y8) ?_
  rintro _ w45 ⟨Q22,Q23,Q24,Q25,Q26,Q27,Q28,Q29,Q30,Q31,Q32,Q33,rfl,hS46,hs47,hs48,hs49⟩
  refine ⟨_,rfl,?_⟩
  refine sR 3 [.inRegion (opsOf (cd6 [1,1,0])) [5,6,7],.code (cd6 [1,1,1])] ?_
  refine rA 32 (.agg #[.string (⟨#[]⟩ : ByteArray),.nilFunc,.nilFunc,.nilFunc]) [.string (⟨#[]⟩ : ByteArray),.nilFunc,.nilFunc,.nilFunc] hS46 ?_
  intro b50 w51 hS52
  refine rS 32 (.tmp 5) (.tmp 22) 0 (.agg #[.string t16,.func (.func 28) #[] #[.pointer (some ⟨Q22,0,none⟩),.pointer (some ⟨Q27,0,none⟩)],.func (.func 31) #[] #[.pointer (some ⟨Q27,0,none⟩),.pointer (some ⟨Q22,0,none⟩)],.func (.func 32) #[] #[.pointer (some ⟨Q22,0,none⟩),.pointer (some ⟨Q27,0,none⟩)]]) [.string t16,.func (.func 28) #[] #[.pointer (some ⟨Q22,0,none⟩),.pointer (some ⟨Q27,0,none⟩)],.func (.func 31) #[] #[.pointer (some ⟨Q27,0,none⟩),.pointer (some ⟨Q22,0,none⟩)],.func (.func 32) #[] #[.pointer (some ⟨Q22,0,none⟩),.pointer (some ⟨Q27,0,none⟩)]] [.string t16,.func (.func 28) #[] #[.pointer (some ⟨Q22,0,none⟩),.pointer (some ⟨Q27,0,none⟩)],.func (.func 31) #[] #[.pointer (some ⟨Q27,0,none⟩),.pointer (some ⟨Q22,0,none⟩)],.func (.func 32) #[] #[.pointer (some ⟨Q22,0,none⟩),.pointer (some ⟨Q27,0,none⟩)]] hS52 ?_
  intro w54 hS55
  refine sR 4 [iR p6_8 0 11,.code p6_9] ?_
  refine rLa 32 (.tmp 5) (hS55.blk 0 rfl) ?_
  refine sR 1 [iR p6_8 2 9,.code p6_9] ?_
  obtain ⟨⟨t56,t57,t58,t59,t60,t61,t62⟩,hr65,hp66⟩:=bind_some' hp35
  try dsimp only at hp66
  have hS71:=hS55.pick6
  have hS72:=hS71.pick6
  have hS73:=hS72.pick6
  have hS74:=hS73.pick6
  have hS75:=hS74.pick6
  have hS76:=hS75.pick6
  refine rC (explore_Explore.ok hr65 hS76 hs47 hs48 hs49) ?_
  rintro _ w77 ⟨Q63,Q64,rfl,hS78⟩
  refine ⟨_,rfl,?_⟩
  refine sR 4 [iR p6_8 7 4,.code p6_9] ?_
  refine rA 70 (.agg (enc_api_Tally (⟨0,0,0,0⟩ : api_Tally)).toArray) (enc_api_Tally (⟨0,0,0,0⟩ : api_Tally)) hS78 ?_
  intro b79 w80 hS81
  refine sR 1 [.inRegion (opsOf p6_8) [9,10],.code p6_9] ?_
  refine rSA 70 (.tmp 8) (.tmp 29) (enc_api_Tally t57) hS81 (one_api_Tally _) ?_
  intro w83 hS84
  refine sR 5 [iR (cd6 [1,1,1,1,0]) 1 4,.code (cd6 [1,1,1,1,1])] ?_
  refine rLa 26 (.tmp 2) (hS84.blk 9 rfl) ?_
  obtain ⟨t85,hr88,hp89⟩:=bind_some' hp66
  refine rC (weirlaw14_reachable.ok hr88 hS84 y6 y7 y8) ?_
  rintro _ w91 ⟨Q86,Q87,rfl,hS92⟩
  refine ⟨_,rfl,?_⟩
  obtain ⟨⟨t93,t94⟩,hr95,hp96⟩:=bind_some' hp89
  try dsimp only at hp96
  obtain ⟨Z97,hz98,hS99,hs100,hb101⟩:=hS92.lendrow len_encS (by omega)
  have hS102:=hS99.pick6
  have hS103:=hS102.pick6
  have hS104:=hS103.pick6
  have hS105:=hS104.pick6
  refine rC (weirlaw14_Book__within.ok hr95 hS105 hs100) ?_
  rintro _ w106 ⟨rfl,hS107⟩
  refine ⟨_,rfl,?_⟩
  have hS108:=hb101 _ _ hS107
  refine sR 4 [iR (cd6 [1,1,1,1,1,0]) 0 8,.code (cd6 [1,1,1,1,1,1])] ?_
  refine rLa 26 (.tmp 2) (hS108.blk 10 rfl) ?_
  obtain ⟨⟨t109,t110,t111,t112,t113,t114⟩,hr127,hp128⟩:=bind_some' hp96
  try dsimp only at hp128
  refine rC (weirlaw14_Net__machine.ok hr127 hS108 y6 y7 y8) ?_
  rintro _ w138 ⟨Q115,Q116,Q117,Q118,Q119,Q120,Q121,Q122,Q123,Q124,Q125,Q126,rfl,hS139,hs140,hs141,hs142⟩
  refine ⟨_,rfl,?_⟩
  refine sR 3 [.inRegion (opsOf (cd6 [1,1,1,1,1,0])) [5,6,7],.code (cd6 [1,1,1,1,1,1])] ?_
  refine rA 32 (.agg #[.string (⟨#[]⟩ : ByteArray),.nilFunc,.nilFunc,.nilFunc]) [.string (⟨#[]⟩ : ByteArray),.nilFunc,.nilFunc,.nilFunc] hS139 ?_
  intro b143 w144 hS145
  refine rS 32 (.tmp 11) (.tmp 38) 0 (.agg #[.string t109,.func (.func 28) #[] #[.pointer (some ⟨Q115,0,none⟩),.pointer (some ⟨Q120,0,none⟩)],.func (.func 31) #[] #[.pointer (some ⟨Q120,0,none⟩),.pointer (some ⟨Q115,0,none⟩)],.func (.func 32) #[] #[.pointer (some ⟨Q115,0,none⟩),.pointer (some ⟨Q120,0,none⟩)]]) [.string t109,.func (.func 28) #[] #[.pointer (some ⟨Q115,0,none⟩),.pointer (some ⟨Q120,0,none⟩)],.func (.func 31) #[] #[.pointer (some ⟨Q120,0,none⟩),.pointer (some ⟨Q115,0,none⟩)],.func (.func 32) #[] #[.pointer (some ⟨Q115,0,none⟩),.pointer (some ⟨Q120,0,none⟩)]] [.string t109,.func (.func 28) #[] #[.pointer (some ⟨Q115,0,none⟩),.pointer (some ⟨Q120,0,none⟩)],.func (.func 31) #[] #[.pointer (some ⟨Q120,0,none⟩),.pointer (some ⟨Q115,0,none⟩)],.func (.func 32) #[] #[.pointer (some ⟨Q115,0,none⟩),.pointer (some ⟨Q120,0,none⟩)]] hS145 ?_
  intro w147 hS148
  refine sR 4 [iR p6_14 0 12,.code p6_15] ?_
  refine rLa 32 (.tmp 11) (hS148.blk 0 rfl) ?_
  refine sR 2 [iR p6_14 3 9,.code p6_15] ?_
  obtain ⟨⟨t149,t150,t151,t152,t153,t154,t155⟩,hr158,hp159⟩:=bind_some' hp128
  try dsimp only at hp159
  have hS164:=hS148.pick6
  have hS165:=hS164.pick6
  have hS166:=hS165.pick6
  have hS167:=hS166.pick6
  have hS168:=hS167.pick6
  have hS169:=hS168.pick6
  refine rC (weirref14_Explore.ok hr158 hS169 hs140 hs141 hs142) ?_
  rintro _ w170 ⟨Q156,Q157,rfl,hS171⟩
  refine ⟨_,rfl,?_⟩
  refine sR 4 [iR p6_14 8 4,.code p6_15] ?_
  refine rA 70 (.agg (enc_api_Tally (⟨0,0,0,0⟩ : api_Tally)).toArray) (enc_api_Tally (⟨0,0,0,0⟩ : api_Tally)) hS171 ?_
  intro b172 w173 hS174
  refine sR 1 [.inRegion (opsOf p6_14) [10,11],.code p6_15] ?_
  refine rSA 70 (.tmp 14) (.tmp 46) (enc_api_Tally t150) hS174 (one_api_Tally _) ?_
  intro w176 hS177
  refine sR 6 (iR p6_16 2 16::td163) ?_
  cases t93
  ·have hp178:=ite_f hp159 rfl
   refine sR 17 td163 ?_
   have hS179:=hS177.drop
   have hS180:=hS179.drop
   have hS181:=hS180.drop
   have hS182:=hS181.drop
   have hS183:=hS182.drop
   have hS184:=hS183.drop
   have hS185:=hS184.drop
   have hS186:=hS185.drop
   have hS187:=hS186.drop
   have hS188:=hS187.drop
   have hS189:=hS188.drop
   have hS190:=hS189.drop
   have hS191:=hS190.drop
   have hS192:=hS191.drop
   have hS193:=hS192.drop
   have hS194:=hS193.drop
   have hS195:=hS194.drop
   have hS196:=hS195.drop
   have hS197:=hS196.drop
   have hS198:=hS197.drop
   refine rR (.bool false) Try.func6 ?_
   cases Option.some.inj hp178
   exact hR _ _ ⟨rfl,hS198⟩
  have hp200:=ite_t hp159 rfl
  refine sR 2 (iR p6_16 4 14::td163) ?_
  obtain ⟨t201,hr202,hp203⟩:=bind_some' hp200
  have hS204:=hS177.pick15
  obtain ⟨Z205,hz206,hS207,hs208,hb209⟩:=hS204.lendrow len_api_Final (by omega)
  have hS210:=hS207.pick1
  obtain ⟨Z211,hz212,hS213,hs214,hb215⟩:=hS210.lendrow len_api_Final (by omega)
  refine rC (weirlaw14_sameFinals.ok hr202 hS213 (hs208.up hz212) hs214) ?_
  rintro _ w216 ⟨rfl,hS217⟩
  refine ⟨_,rfl,?_⟩
  have hS218:=hb215 _ _ hS217
  have hS219:=hb209 _ _ hS218
  refine sR 2 (iR p6_16 7 11::td163) ?_
  cases t201
  ·have hp220:=ite_f hp203 rfl
   refine sR 12 td163 ?_
   have hS221:=hS219.drop
   have hS222:=hS221.drop
   have hS223:=hS222.drop
   have hS224:=hS223.drop
   have hS225:=hS224.drop
   have hS226:=hS225.drop
   have hS227:=hS226.drop
   have hS228:=hS227.drop
   have hS229:=hS228.drop
   have hS230:=hS229.drop
   have hS231:=hS230.drop
   have hS232:=hS231.drop
   have hS233:=hS232.drop
   have hS234:=hS233.drop
   have hS235:=hS234.drop
   have hS236:=hS235.drop
   have hS237:=hS236.drop
   have hS238:=hS237.drop
   have hS239:=hS238.drop
   have hS240:=hS239.drop
   refine rR (.bool false) Try.func6 ?_
   cases Option.some.inj hp220
   exact hR _ _ ⟨rfl,hS240⟩
  have hp242:=ite_t hp203 rfl
  refine rLa 70 (.tmp 8) (hS219.blk 15 rfl) ?_
  refine rLa 70 (.tmp 14) (hS219.blk 2 rfl) ?_
  refine rV (.binOp .eql 70 (.tmp 55) (.tmp 56) 70) (.bool (decide (t57 = t150))) (fun o ho _ => x_eql_api_Tally (by kernel_rfl) (by kernel_rfl) ho) ?_
  refine r_split (decide (t57 = t150)) (fun h243 => ?_) (fun h244 => ?_)
  ·have hp245:=ite_t hp242 h243
   refine sR 3 (iR p6_16 13 5::td163) ?_
   obtain ⟨t246,hr247,hp248⟩:=bind_some' hp245
   refine rC (weirlaw14_num.ok hr247 hS219) ?_
   rintro _ w249 ⟨rfl,hS250⟩
   refine ⟨_,rfl,?_⟩
   refine sI 2 (.inRegion (opsOf p6_16) [16,17]::td163) 63 hp248 (fun hp253 => ?_) fun hp275 => ?_
   ·refine sR 3 td163 ?_
    have hS254:=hS250.drop
    have hS255:=hS254.drop
    have hS256:=hS255.drop
    have hS257:=hS256.drop
    have hS258:=hS257.drop
    have hS259:=hS258.drop
    have hS260:=hS259.drop
    have hS261:=hS260.drop
    have hS262:=hS261.drop
    have hS263:=hS262.drop
    have hS264:=hS263.drop
    have hS265:=hS264.drop
    have hS266:=hS265.drop
    have hS267:=hS266.drop
    have hS268:=hS267.drop
    have hS269:=hS268.drop
    have hS270:=hS269.drop
    have hS271:=hS270.drop
    have hS272:=hS271.drop
    have hS273:=hS272.drop
    refine rR (.bool true) Try.func6 ?_
    cases Option.some.inj hp253
    exact hR _ _ ⟨rfl,hS273⟩
   refine sR 3 td163 ?_
   have hS276:=hS250.drop
   have hS277:=hS276.drop
   have hS278:=hS277.drop
   have hS279:=hS278.drop
   have hS280:=hS279.drop
   have hS281:=hS280.drop
   have hS282:=hS281.drop
   have hS283:=hS282.drop
   have hS284:=hS283.drop
   have hS285:=hS284.drop
   have hS286:=hS285.drop
   have hS287:=hS286.drop
   have hS288:=hS287.drop
   have hS289:=hS288.drop
   have hS290:=hS289.drop
   have hS291:=hS290.drop
   have hS292:=hS291.drop
   have hS293:=hS292.drop
   have hS294:=hS293.drop
   have hS295:=hS294.drop
   refine rR (.bool false) Try.func6 ?_
   cases Option.some.inj hp275
   exact hR _ _ ⟨rfl,hS295⟩
  have hp297:=ite_f hp242 h244
  refine sR 9 td163 ?_
  have hS298:=hS219.drop
  have hS299:=hS298.drop
  have hS300:=hS299.drop
  have hS301:=hS300.drop
  have hS302:=hS301.drop
  have hS303:=hS302.drop
  have hS304:=hS303.drop
  have hS305:=hS304.drop
  have hS306:=hS305.drop
  have hS307:=hS306.drop
  have hS308:=hS307.drop
  have hS309:=hS308.drop
  have hS310:=hS309.drop
  have hS311:=hS310.drop
  have hS312:=hS311.drop
  have hS313:=hS312.drop
  have hS314:=hS313.drop
  have hS315:=hS314.drop
  have hS316:=hS315.drop
  have hS317:=hS316.drop
  refine rR (.bool false) Try.func6 ?_
  cases Option.some.inj hp297
  exact hR _ _ ⟨rfl,hS317⟩

end
end Go.Proofs.Ytfiamlhhhkiiaaa.K
