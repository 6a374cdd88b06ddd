/- The walk, part 2: each Go function as a plain Lean function, and that its call answers as that function says. No condition. -/
import Derived.Test.YtfiamlhhhkiiaaaE
import Derived.Test.YtfiamlhhhkiiaaaNS
import Derived.Test.YtfiamlhhhkiiaaaLS
import Derived.Test.YtfiamlhhhkiiaaaNG
import Derived.Test.YtfiamlhhhkiiaaaNP
import Derived.Test.YtfiamlhhhkiiaaaNM
import Derived.Test.YtfiamlhhhkiiaaaNQ
import Derived.Test.YtfiamlhhhkiiaaaNI
import Derived.Test.YtfiamlhhhkiiaaaNX
import Derived.Test.YtfiamlhhhkiiaaaNY
import Derived.Test.YtfiamlhhhkiiaaaNC
import Derived.Test.YtfiamlhhhkiiaaaNF
import Derived.Test.YtfiamlhhhkiiaaaNW
import Derived.Test.YtfiamlhhhkiiaaaNK
import Derived.Test.YtfiamlhhhkiiaaaND
import Derived.Test.YtfiamlhhhkiiaaaM1
set_option linter.unusedVariables false
set_option linter.unusedSimpArgs false
set_option maxRecDepth 100000
set_option synthInstance.maxSize 100000
set_option synthInstance.maxHeartbeats 4000000
namespace Go.Proofs.Ytfiamlhhhkiiaaa.K
open Go Go.RowKit
noncomputable section
set_option maxHeartbeats 16000000
variable {w0 : World} {Z : Zm} {fs : List XObj} {w : World}
noncomputable def cd52 (p : List Nat) : Code := sub (bodyOf Try.f52) p
abbrev p52_10:=cd52 [1,1,0,1,0,0,1,0,0,0]
abbrev p52_15:=cd52 [1,1,0,1,0,0,1,0,0,1,0,1,0,1,0,0]
abbrev p52_17:=cd52 [1,1,0,1,0,0,1,0,0,1,0,1,1,0]
abbrev p52_20:=cd52 [1,1,0,1,0,0,1,0,0,1,0,1,1,1,1]
abbrev p52_24:=cd52 [1,1,0,1,0,0,1,0,0,1,0,1,0,1,0,0,1,0,0,0]
abbrev p52_26:=cd52 [1,1,0,1,0,0,1,0,0,1,0,1,0,1,0,0,1,1]
abbrev p52_27:=cd52 [1,1,0,1,0,0,1,0,0,1,0,1,0,1,0,0,1,0,0,1,0,0]
abbrev td73:List Item:=[.code (cd52 [1,1,1])]
abbrev td74:List Item:=.inBlock 0::td73
abbrev td75:List Item:=.inLoop (cd52 [1,1,0,1,0,0])::td74
abbrev td76:List Item:=.code (cd52 [1,1,0,1,0,0])::td75
abbrev td77:List Item:=.code (cd52 [1,1,0,1,0,0,1,1])::td75
abbrev td78:List Item:=.inBlock 1::td77
abbrev td79:List Item:=.code (cd52 [1,1,0,1,0,0,1,0,0,1,0,1,1])::td78
abbrev td80:List Item:=.inBlock 2::td79
abbrev td81:List Item:=.inLoop p52_15::td80
abbrev td82:List Item:=.code p52_15::td81
def slices_Compact___api_Final_api_Final.l1 (a0 : List api_Final) (t16 t74 t75 : Int) (t76 : List api_Final) : Option (Int × (List api_Final)) :=
  (if (decide (t75 < (((a0.length - t16.toNat) : Nat) : Int))) = true then (if 0 ≤ t75 ∧ t75 < (((a0.length - t16.toNat) : Nat) : Int) ∧ ((t16.toNat : Nat) : Int) + t75 < (t76.length : Int) then (if 0 ≤ (IntKind.i64.wrap (t75 - 1)) ∧ (IntKind.i64.wrap (t75 - 1)) < (((a0.length - t16.toNat) : Nat) : Int) ∧ ((t16.toNat : Nat) : Int) + (IntKind.i64.wrap (t75 - 1)) < (t76.length : Int) then (if (!(decide ((gt t76 (((t16.toNat : Nat) : Int) + t75)) = (gt t76 (((t16.toNat : Nat) : Int) + (IntKind.i64.wrap (t75 - 1))))))) = true then (if 0 ≤ t75 ∧ t75 < (((a0.length - t16.toNat) : Nat) : Int) ∧ ((t16.toNat : Nat) : Int) + t75 < (t76.length : Int) then (if 0 ≤ t74 ∧ t74 < (t76.length : Int) then (slices_Compact___api_Final_api_Final.l1 a0 t16 (IntKind.i64.wrap (t74 + 1)) (IntKind.i64.wrap (t75 + 1)) (setl t76 t74 (gt t76 (((t16.toNat : Nat) : Int) + t75)))) else none) else none) else (slices_Compact___api_Final_api_Final.l1 a0 t16 (id t74) (IntKind.i64.wrap (t75 + 1)) (id t76))) else none) else none) else some ((t74,t76)))
 partial_fixpoint
def slices_Compact___api_Final_api_Final.l0 (a0 : List api_Final) (t16 : Int) : Option (Sum Unit (List api_Final)) :=
  (if (decide (t16 < (a0.length : Int))) = true then (if 0 ≤ t16 ∧ t16 < (a0.length : Int) then (if 0 ≤ (IntKind.i64.wrap (t16 - 1)) ∧ (IntKind.i64.wrap (t16 - 1)) < (a0.length : Int) then (if (decide ((gt a0 t16) = (gt a0 (IntKind.i64.wrap (t16 - 1))))) = true then (if 0 ≤ t16 ∧ t16 ≤ ((a0.length : Nat) : Int) then (slices_Compact___api_Final_api_Final.l1 a0 t16 t16 1 a0 >>= (fun (t52,t53) => (if 0 ≤ t52 ∧ t52 ≤ ((t53.length : Nat) : Int) then (if t52.toNat + (t53.length - t52.toNat) ≤ t53.length then (if 0 ≤ t52 ∧ t52 ≤ ((copyv t53 t52.toNat (t53.length - t52.toNat) (List.replicate (t53.length - t52.toNat) (⟨0,(Vector.replicate 48 0)⟩ : api_Final))).length : Int) then (if t52.toNat ≤ (copyv t53 t52.toNat (t53.length - t52.toNat) (List.replicate (t53.length - t52.toNat) (⟨0,(Vector.replicate 48 0)⟩ : api_Final))).length then some (.inr (((copyv t53 t52.toNat (t53.length - t52.toNat) (List.replicate (t53.length - t52.toNat) (⟨0,(Vector.replicate 48 0)⟩ : api_Final))).take t52.toNat))) else none) else none) else none) else none))) else none) else (slices_Compact___api_Final_api_Final.l0 a0 (IntKind.i64.wrap (t16 + 1)))) else none) else none) else some (.inl ()))
 partial_fixpoint
def slices_Compact___api_Final_api_Final.f (a0 : List api_Final) : Option (List api_Final) :=
  (if (decide ((a0.length : Int) < 2)) = true then some (a0) else (slices_Compact___api_Final_api_Final.l0 a0 1 >>= (fun | .inl () => some (a0) | .inr e => some e)))
theorem slices_Compact___api_Final_api_Final.ok {a0 : List api_Final} {Aa0 : Option Addr} {ca0 : Nat} {q0 : List api_Final} (hp0 : slices_Compact___api_Final_api_Final.f a0 = some q0) (hS0 : St w0 Z (xrow Aa0 ca0 84 49 (a0.flatMap enc_api_Final)::fs) w) :
    Calls Try.prog 52 #[.slice Aa0 a0.length ca0] w (fun e w' => ∃ (QA0 : Option Addr) (Qc0 : Nat),e = .returned (.slice QA0 q0.length Qc0) ∧ St w0 Z (xrow QA0 Qc0 84 49 (q0.flatMap enc_api_Final)::fs) w'):=by
  refine calls_abs ?_; intro R hR
  unfold slices_Compact___api_Final_api_Final.f at hp0
  refine calls_of_runs (fn:=Try.f52) (c:=cd52 []) Try.func52 (by kernel_rfl) (al:=[.slice Aa0 a0.length ca0]) rfl (n:=60) rfl ?_
  refine sI 10 [.inRegion (opsOf (cd52 [1,0,0])) [],.code (cd52 [1,0,1]),.code (cd52 [1,1])] 8 hp0 (fun hp3 => ?_) fun hp5 => ?_
  ·refine sR 7 [.code (cd52 [1,0,1,0,1]),.code (cd52 [1,1])] ?_
   refine rR (.slice Aa0 a0.length ca0) Try.func52 ?_
   cases Option.some.inj hp3
   exact hR _ _ ⟨Aa0,ca0,rfl,hS0⟩
  refine sR 10 td76 ?_
  obtain ⟨v6,hv7,hp8⟩:=bind_some' hp5
  have hq11 : ∀ x,Sum.inr x = v6 → x = q0:=by intro x hx; subst hx; simpa using hp8
  have J12 : ∀ (he14 : Sum.inl () = v6) (l13 : List Value) (w9 : World) (hS10 : St w0 Z (xrow Aa0 ca0 84 49 (a0.flatMap enc_api_Final)::fs) w9),Runs Try.prog (fx 52) td73 (fill (mk 61 [(0,.slice Aa0 a0.length ca0)]) l13) w9 R:=by
   intro he14 l13 w9 hS10
   subst he14
   try dsimp only at hp8
   refine sR 5 [.code (cd52 [1,1,1,1])] ?_
   refine rR (.slice Aa0 a0.length ca0) Try.func52 ?_
   cases Option.some.inj hp8
   exact hR _ _ ⟨Aa0,ca0,rfl,hS10⟩
  have L25 : ∀ (t16 : Int) (e20 : Sum Unit (List api_Final)),slices_Compact___api_Final_api_Final.l0 a0 t16 = some e20 → e20 = v6 → ∀ (l19 : List Value) (w17 : World) (hS18 : St w0 Z (xrow Aa0 ca0 84 49 (a0.flatMap enc_api_Final)::fs) w17),Runs Try.prog (fx 52) td76 (fill (mk 61 [(0,.slice Aa0 a0.length ca0),(3,.int .i64 t16)]) l19) w17 R:=by
   refine slices_Compact___api_Final_api_Final.l0.partial_correctness a0 (fun t16 e20 => e20 = v6 → ∀ (l19 : List Value) (w17 : World) (hS18 : St w0 Z (xrow Aa0 ca0 84 49 (a0.flatMap enc_api_Final)::fs) w17),Runs Try.prog (fx 52) td76 (fill (mk 61 [(0,.slice Aa0 a0.length ca0),(3,.int .i64 t16)]) l19) w17 R) ?_
   intro rec24 ih23 t16 e20 hb22 he21 l19 w17 hS18
   have hq26 : ∀ x,Sum.inr x = e20 → x = q0:=fun x hx => hq11 x (hx.trans he21)
   refine sI 7 (.inRegion (opsOf (cd52 [1,1,0,1,0,0,0,0])) []::.code (cd52 [1,1,0,1,0,0,0,1])::.code (cd52 [1,1,0,1,0,0,1])::td75) 13 hb22 (fun hp29 => ?_) fun hp133 => ?_
   ·refine sR 6 (.code p52_10::.code (cd52 [1,1,0,1,0,0,1,0,0,1])::td78) ?_
    refine r_quiet hS18 (c:=p52_10) (id:=6) (by kernel_rfl) (by kernel_rfl) (by kernel_rfl) (is:=[0,1,2,3,4,5,6,7,8,9]) (by kernel_rfl) ?_
    refine qR 2 (rg 2 8) ?_
    obtain ⟨g30,hp31⟩:=ite_some hp29
    obtain ⟨b32,p33,hA34,-⟩:=(hS18.row 0 rfl).at_ len_api_Final (by omega) g30.1 g30.2
    refine q_indexAddr (c:=p52_10) (i:=2) (d:=(some 18)) (ty:=0) (t:=39) (e:=84) (n:=a0.length) (cp:=ca0) (sz:=49) (kk:=.i64) (x:=(.tmp 16)) (y:=(.tmp 17)) (b:=b32) (o':=p33) (j:=t16) (by kernel_rfl) (by kernel_rfl) (slv (by kernel_rfl) hA34) (by kernel_rfl) (by kernel_rfl) (by kernel_rfl) g30.1 g30.2 ?_
    refine qL 84 (.tmp 18) (fun w hC => (loads_agg ((hC.row 0 rfl).at2 hA34 len_api_Final (by omega) g30.1 g30.2) (by kernel_rfl) (lenK (len_api_Final _) (by kernel_rfl)))) ?_
    refine qR 3 [7,8,9] ?_
    obtain ⟨g36,hp37⟩:=ite_some hp31
    obtain ⟨b38,p39,hA40,-⟩:=(hS18.row 0 rfl).at_ len_api_Final (by omega) g36.1 g36.2
    refine q_indexAddr (c:=p52_10) (i:=7) (d:=(some 23)) (ty:=0) (t:=39) (e:=84) (n:=a0.length) (cp:=ca0) (sz:=49) (kk:=.i64) (x:=(.tmp 20)) (y:=(.tmp 22)) (b:=b38) (o':=p39) (j:=(IntKind.i64.wrap (t16 - 1))) (by kernel_rfl) (by kernel_rfl) (slv (by kernel_rfl) hA40) (by kernel_rfl) (by kernel_rfl) (by kernel_rfl) g36.1 g36.2 ?_
    refine qL 84 (.tmp 23) (fun w hC => (loads_agg ((hC.row 0 rfl).at2 hA40 len_api_Final (by omega) g36.1 g36.2) (by kernel_rfl) (lenK (len_api_Final _) (by kernel_rfl)))) ?_
    refine qV (.binOp .eql 84 (.tmp 19) (.tmp 24) 84) (.bool (decide ((gt a0 t16) = (gt a0 (IntKind.i64.wrap (t16 - 1)))))) (fun w hC o ho _ => x_eql_api_Final (by kernel_rfl) (by kernel_rfl) ho) ?_
    refine q_split (decide ((gt a0 t16) = (gt a0 (IntKind.i64.wrap (t16 - 1))))) (fun h42 => ?_) (fun h43 => ?_)
    ·have hp44:=ite_t hp37 h42
     refine Qs.nil ?_
     intro w45 hS46
     refine sR 5 (.inRegion (opsOf (cd52 [1,1,0,1,0,0,1,0,0,1,0,0])) [2,3]::.code (cd52 [1,1,0,1,0,0,1,0,0,1,0,1])::td78) ?_
     obtain ⟨g47,hp48⟩:=ite_some hp44
     refine rV (.slice 39 (.tmp 26) (some (.tmp 27)) none none) (.slice (vA Aa0 ca0 t16.toNat 49) (a0.length - t16.toNat) (ca0 - t16.toNat)) (fun o ho _ => x_cutSl_sn (e:=84) (sz:=49) (A:=Aa0) (n:=a0.length) (c:=ca0) (k:=.i64) (by kernel_rfl) (by kernel_rfl) (by kernel_rfl) (by kernel_rfl) g47 rfl ho) ?_
     refine sR 9 td82 ?_
     obtain ⟨v49,hv50,hp51⟩:=bind_some' hp48
     have J56 : ∀ (t52 : Int) (t53 : List api_Final) (he58 : (t52,t53) = v49) (l57 : List Value) (w54 : World) (hS55 : St w0 Z (xrow Aa0 ca0 84 49 (t53.flatMap enc_api_Final)::fs) w54),Runs Try.prog (fx 52) td79 (fill (mk 61 [(0,.slice Aa0 t53.length ca0),(3,.int .i64 t52)]) l57) w54 R:=by
      intro t52 t53 he58 l57 w54 hS55
      subst he58
      try dsimp only at hp51
      refine sR 4 (.inRegion (opsOf p52_17) [2,3]::.code (cd52 [1,1,0,1,0,0,1,0,0,1,0,1,1,1])::td78) ?_
      obtain ⟨g59,hp60⟩:=ite_some hp51
      refine rV (.slice 39 (.tmp 54) (some (.tmp 55)) none none) (.slice (vA Aa0 ca0 t52.toNat 49) (t53.length - t52.toNat) (ca0 - t52.toNat)) (fun o ho _ => x_cutSl_sn (e:=84) (sz:=49) (A:=Aa0) (n:=t53.length) (c:=ca0) (k:=.i64) (by kernel_rfl) (by kernel_rfl) (by kernel_rfl) (by kernel_rfl) g59 rfl ho) ?_
      obtain ⟨g61,hp62⟩:=ite_some hp60
      refine r_clearV (c:=p52_17) (i:=3) (d:=none) (ty:=0) (enc:=enc_api_Final) (e:=84) (t:=39) (sz:=49) (cp:=ca0) (L:=t52.toNat) (n:=(t53.length - t52.toNat)) (A:=Aa0) (xs:=t53) (s:=(.tmp 56)) (z:=.agg (enc_api_Final (⟨0,(Vector.replicate 48 0)⟩ : api_Final)).toArray) (z0:=(⟨0,(Vector.replicate 48 0)⟩ : api_Final)) hS55 (by kernel_rfl) (by kernel_rfl) (by kernel_rfl) (by kernel_rfl) (by kernel_rfl) rfl (by omega) len_api_Final one_api_Final g61 ?_
      intro w63 hS64
      refine rF [some (.slice Aa0 t53.length ca0),none,none,none,none,none,none,none,none,none,none,none,none,none,none,none,none,none,none,none,none,none,none,none,none,none,none,none,none,none,none,none,none,none,none,none,none,none,none,none,none,none,none,none,none,none,none,none,none,none,none,none,none,none,some (.slice Aa0 t53.length ca0),none,none,none,none,none,none] ?_
      refine Runs.refill (m':=[some (.slice Aa0 (copyv t53 t52.toNat (t53.length - t52.toNat) (List.replicate (t53.length - t52.toNat) (⟨0,(Vector.replicate 48 0)⟩ : api_Final))).length ca0),none,none,none,none,none,none,none,none,none,none,none,none,none,none,none,none,none,none,none,none,none,none,none,none,none,none,none,none,none,none,none,none,none,none,none,none,none,none,none,none,none,none,none,none,none,none,none,none,none,none,none,none,none,some (.slice Aa0 (copyv t53 t52.toNat (t53.length - t52.toNat) (List.replicate (t53.length - t52.toNat) (⟨0,(Vector.replicate 48 0)⟩ : api_Final))).length ca0),none,none,none,none,none,none]) (by simp only [copyv_len g61]) ?_
      refine sR 5 (.inRegion (opsOf (cd52 [1,1,0,1,0,0,1,0,0,1,0,1,1,1,0])) [2,3]::.code p52_20::td78) ?_
      obtain ⟨g65,hp66⟩:=ite_some hp62
      have hc67:=(hS64.row 0 rfl).cap len_api_Final (by omega)
      have g68 : 0 ≤ t52 ∧ t52 ≤ (ca0 : Int):=by omega
      refine rV (.slice 39 (.tmp 57) none (some (.tmp 58)) none) (.slice Aa0 t52.toNat ca0) (fun o ho _ => x_cutSl_nsC (e:=84) (sz:=49) (A:=Aa0) (n:=(copyv t53 t52.toNat (t53.length - t52.toNat) (List.replicate (t53.length - t52.toNat) (⟨0,(Vector.replicate 48 0)⟩ : api_Final))).length) (c:=ca0) (k:=.i64) (by kernel_rfl) (by kernel_rfl) (by kernel_rfl) (by kernel_rfl) g68 cut0 ho) ?_
      refine sR 2 (.code p52_20::td78) ?_
      refine r_isret (c:=p52_20) (by kernel_rfl) ?_
      obtain ⟨g69,hp70⟩:=ite_some hp66
      have hS71:=hS64.cutrow0 t52.toNat g69 len_api_Final
      refine rR (.slice Aa0 t52.toNat ca0) Try.func52 ?_
      cases hq26 _ (Option.some.inj hp70)
      exact hR _ _ ⟨Aa0,ca0,(by rw [lenTake g69]),hS71⟩
     have L85 : ∀ (t74 t75 : Int) (t76 : List api_Final) (e80 : (Int × (List api_Final))),slices_Compact___api_Final_api_Final.l1 a0 t16 t74 t75 t76 = some e80 → e80 = v49 → ∀ (l79 : List Value) (w77 : World) (hS78 : St w0 Z (xrow Aa0 ca0 84 49 (t76.flatMap enc_api_Final)::fs) w77),Runs Try.prog (fx 52) td82 (fill (mk 61 [(0,.slice Aa0 t76.length ca0),(3,.int .i64 t74),(4,.slice (vA Aa0 ca0 t16.toNat 49) (a0.length - t16.toNat) (ca0 - t16.toNat)),(5,.int .i64 t75)]) l79) w77 R:=by
      refine slices_Compact___api_Final_api_Final.l1.partial_correctness a0 t16 (fun t74 t75 t76 e80 => e80 = v49 → ∀ (l79 : List Value) (w77 : World) (hS78 : St w0 Z (xrow Aa0 ca0 84 49 (t76.flatMap enc_api_Final)::fs) w77),Runs Try.prog (fx 52) td82 (fill (mk 61 [(0,.slice Aa0 t76.length ca0),(3,.int .i64 t74),(4,.slice (vA Aa0 ca0 t16.toNat 49) (a0.length - t16.toNat) (ca0 - t16.toNat)),(5,.int .i64 t75)]) l79) w77 R) ?_
      intro rec84 ih83 t74 t75 t76 e80 hb82 he81 l79 w77 hS78
      refine sI 7 (.inRegion (opsOf (cd52 [1,1,0,1,0,0,1,0,0,1,0,1,0,1,0,0,0,0])) []::.code (cd52 [1,1,0,1,0,0,1,0,0,1,0,1,0,1,0,0,0,1])::.code (cd52 [1,1,0,1,0,0,1,0,0,1,0,1,0,1,0,0,1])::td81) 32 hb82 (fun hp88 => ?_) fun hp129 => ?_
      ·refine sR 6 (.code p52_24::.code (cd52 [1,1,0,1,0,0,1,0,0,1,0,1,0,1,0,0,1,0,0,1])::.inBlock 3::.code p52_26::td81) ?_
       refine r_quiet hS78 (c:=p52_24) (id:=11) (by kernel_rfl) (by kernel_rfl) (by kernel_rfl) (is:=[0,1,2,3,4,5,6,7,8,9]) (by kernel_rfl) ?_
       refine qR 2 (rg 2 8) ?_
       obtain ⟨g89,hp90⟩:=ite_some hp88
       obtain ⟨b91,p92,hA93,-⟩:=(hS78.row 0 rfl).at_ len_api_Final (by omega) (i:=((t16.toNat : Nat) : Int) + t75) (by omega) g89.2.2
       have g94 : 0 ≤ t75 ∧ ((t16.toNat : Nat) : Int) + t75 < (t76.length : Int):=⟨g89.1,g89.2.2⟩
       have hc96:=(hS78.row 0 rfl).cap len_api_Final (by omega)
       have hA95:=vA_at (c:=ca0) (sz:=49) (L:=t16.toNat) hA93 (by omega)
       refine q_indexAddr (c:=p52_24) (i:=2) (d:=(some 37)) (ty:=0) (t:=39) (e:=84) (n:=(a0.length - t16.toNat)) (cp:=(ca0 - t16.toNat)) (sz:=49) (kk:=.i64) (x:=(.tmp 35)) (y:=(.tmp 36)) (b:=b91) (o':=p92 + t16.toNat * 49) (j:=t75) (by kernel_rfl) (by kernel_rfl) (slv (by kernel_rfl) hA95) (by kernel_rfl) (by kernel_rfl) (by kernel_rfl) g89.1 g89.2.1 ?_
       refine qL 84 (.tmp 37) (fun w hC => (loads_agg ((hC.row 0 rfl).at2v hA93 len_api_Final (by omega) g94.1 g94.2) (by kernel_rfl) (lenK (len_api_Final _) (by kernel_rfl)))) ?_
       refine qR 3 [7,8,9] ?_
       obtain ⟨g97,hp98⟩:=ite_some hp90
       obtain ⟨b99,p100,hA101,-⟩:=(hS78.row 0 rfl).at_ len_api_Final (by omega) (i:=((t16.toNat : Nat) : Int) + (IntKind.i64.wrap (t75 - 1))) (by omega) g97.2.2
       have g102 : 0 ≤ (IntKind.i64.wrap (t75 - 1)) ∧ ((t16.toNat : Nat) : Int) + (IntKind.i64.wrap (t75 - 1)) < (t76.length : Int):=⟨g97.1,g97.2.2⟩
       have hc104:=(hS78.row 0 rfl).cap len_api_Final (by omega)
       have hA103:=vA_at (c:=ca0) (sz:=49) (L:=t16.toNat) hA101 (by omega)
       refine q_indexAddr (c:=p52_24) (i:=7) (d:=(some 42)) (ty:=0) (t:=39) (e:=84) (n:=(a0.length - t16.toNat)) (cp:=(ca0 - t16.toNat)) (sz:=49) (kk:=.i64) (x:=(.tmp 39)) (y:=(.tmp 41)) (b:=b99) (o':=p100 + t16.toNat * 49) (j:=(IntKind.i64.wrap (t75 - 1))) (by kernel_rfl) (by kernel_rfl) (slv (by kernel_rfl) hA103) (by kernel_rfl) (by kernel_rfl) (by kernel_rfl) g97.1 g97.2.1 ?_
       refine qL 84 (.tmp 42) (fun w hC => (loads_agg ((hC.row 0 rfl).at2v hA101 len_api_Final (by omega) g102.1 g102.2) (by kernel_rfl) (lenK (len_api_Final _) (by kernel_rfl)))) ?_
       refine qV (.binOp .neq 84 (.tmp 38) (.tmp 43) 84) (.bool (!(decide ((gt t76 (((t16.toNat : Nat) : Int) + t75)) = (gt t76 (((t16.toNat : Nat) : Int) + (IntKind.i64.wrap (t75 - 1)))))))) (fun w hC o ho _ => x_neq_api_Final (by kernel_rfl) (by kernel_rfl) ho) ?_
       refine q_split (!(decide ((gt t76 (((t16.toNat : Nat) : Int) + t75)) = (gt t76 (((t16.toNat : Nat) : Int) + (IntKind.i64.wrap (t75 - 1))))))) (fun h105 => ?_) (fun h106 => ?_)
       ·have hp107:=ite_t hp98 h105
        refine Qs.nil ?_
        intro w108 hS109
        refine sR 7 (iR p52_27 4 4::.code (cd52 [1,1,0,1,0,0,1,0,0,1,0,1,0,1,0,0,1,0,0,1,0,1])::.inBlock 3::.code p52_26::td81) ?_
        obtain ⟨g110,hp111⟩:=ite_some hp107
        obtain ⟨b112,p113,hA114,-⟩:=(hS109.row 0 rfl).at_ len_api_Final (by omega) (i:=((t16.toNat : Nat) : Int) + t75) (by omega) g110.2.2
        have g115 : 0 ≤ t75 ∧ ((t16.toNat : Nat) : Int) + t75 < (t76.length : Int):=⟨g110.1,g110.2.2⟩
        have hc117:=(hS109.row 0 rfl).cap len_api_Final (by omega)
        have hA116:=vA_at (c:=ca0) (sz:=49) (L:=t16.toNat) hA114 (by omega)
        refine r_indexAddr (c:=p52_27) (i:=4) (d:=(some 49)) (ty:=0) (t:=39) (e:=84) (n:=(a0.length - t16.toNat)) (cp:=(ca0 - t16.toNat)) (sz:=49) (kk:=.i64) (x:=(.tmp 47)) (y:=(.tmp 48)) (b:=b112) (o':=p113 + t16.toNat * 49) (j:=t75) (by kernel_rfl) (by kernel_rfl) (slv (by kernel_rfl) hA116) (by kernel_rfl) (by kernel_rfl) (by kernel_rfl) g110.1 g110.2.1 ?_
        refine rL 84 (.tmp 49) (loads_agg ((hS109.row 0 rfl).at2v hA114 len_api_Final (by omega) g115.1 g115.2) (by kernel_rfl) (lenK (len_api_Final _) (by kernel_rfl))) ?_
        obtain ⟨g118,hp119⟩:=ite_some hp111
        obtain ⟨b120,p121,hA122,-⟩:=(hS109.row 0 rfl).at_ len_api_Final (by omega) g118.1 g118.2
        refine r_indexAddr (c:=p52_27) (i:=6) (d:=(some 51)) (ty:=0) (t:=39) (e:=84) (n:=t76.length) (cp:=ca0) (sz:=49) (kk:=.i64) (x:=(.tmp 45)) (y:=(.tmp 46)) (b:=b120) (o':=p121) (j:=t74) (by kernel_rfl) (by kernel_rfl) (slv (by kernel_rfl) hA122) (by kernel_rfl) (by kernel_rfl) (by kernel_rfl) g118.1 g118.2 ?_
        refine r_storeEl (c:=p52_27) (i:=7) (d:=none) (ty:=0) (enc:=enc_api_Final) (e:=84) (t:=84) (sz:=49) (cp:=ca0) (A:=Aa0) (xs:=t76) (x:=(.tmp 51)) (y:=(.tmp 50)) (el:=gt t76 t74) (el':=(gt t76 (((t16.toNat : Nat) : Int) + t75))) (j:=t74) (off:=0) (b:=b120) (p:=p121) (v:=.agg (enc_api_Final (gt t76 (((t16.toNat : Nat) : Int) + t75))).toArray) (vs:=enc_api_Final (gt t76 (((t16.toNat : Nat) : Int) + t75))) (ad:=⟨b120,p121 + t74.toNat * 49,none⟩) hS109 (by kernel_rfl) (by kernel_rfl) (by kernel_rfl) (by simp) (by kernel_rfl) hA122 g118 rfl len_api_Final (by kernel_rfl) (lenK (len_api_Final _) (by kernel_rfl)) (one_api_Final _) (by rw [len_api_Final]; omega) (by rw [len_api_Final]; omega) (over_all ((len_api_Final _).trans (len_api_Final _).symm)) ?_
        intro w124 hS125
        refine rF [some (.slice Aa0 t76.length ca0),none,none,none,none,none,none,none,none,none,none,none,none,none,none,none,none,none,none,none,none,none,none,none,none,none,none,none,none,none,none,none,none,none,none,none,none,none,none,none,none,none,none,none,none,some (.slice Aa0 t76.length ca0),none,none,none,none,none,none,none,none,none,none,none,none,none,none,none] ?_
        refine Runs.refill (m':=[some (.slice Aa0 (setl t76 t74 (gt t76 (((t16.toNat : Nat) : Int) + t75))).length ca0),none,none,none,none,none,none,none,none,none,none,none,none,none,none,none,none,none,none,none,none,none,none,none,none,none,none,none,none,none,none,none,none,none,none,none,none,none,none,none,none,none,none,none,none,some (.slice Aa0 (setl t76 t74 (gt t76 (((t16.toNat : Nat) : Int) + t75))).length ca0),none,none,none,none,none,none,none,none,none,none,none,none,none,none,none]) (by simp only [setl_len]) ?_
        refine sR 12 td81 ?_
        refine sR 1 td82 ?_
        exact rF _ (ih83 (IntKind.i64.wrap (t74 + 1)) (IntKind.i64.wrap (t75 + 1)) (setl t76 t74 (gt t76 (((t16.toNat : Nat) : Int) + t75))) _ hp119 he81 _ _ hS125)
       have hp126:=ite_f hp98 h106
       refine Qs.nil ?_
       intro w127 hS128
       refine sR 8 td81 ?_
       refine sR 1 td82 ?_
       exact rF _ (ih83 (id t74) (IntKind.i64.wrap (t75 + 1)) (id t76) _ hp126 he81 _ _ hS128)
      refine sR 3 td79 ?_
      exact rF _ (J56 t74 t76 ((Option.some.inj hp129).trans he81) _ _ hS78)
     exact rF _ (L85 t16 1 a0 _ hv50 rfl _ _ hS46)
    have hp130:=ite_f hp37 h43
    refine Qs.nil ?_
    intro w131 hS132
    refine sR 8 td75 ?_
    refine sR 1 td76 ?_
    exact rF _ (ih23 (IntKind.i64.wrap (t16 + 1)) _ hp130 he21 _ _ hS132)
   refine sR 3 td73 ?_
   exact rF _ (J12 ((Option.some.inj hp133).trans he21) _ _ hS18)
  exact rF _ (L25 1 _ hv7 rfl _ _ hS0)

noncomputable def cd42 (p : List Nat) : Code := sub (bodyOf Try.f42) p
abbrev p42_8:=cd42 [1,1,0,1,0,0,1,1,0,0,0]
abbrev p42_11:=cd42 [1,1,0,1,0,0,1,1,0,0,1,0]
abbrev p42_12:=cd42 [1,1,0,1,0,0,1,1,0,0,1,1]
abbrev p42_13:=cd42 [1,1,0,1,0,0,1,1,0,0,1,1,0]
abbrev td83:List Item:=[.code (cd42 [1,1,1])]
abbrev td84:List Item:=.inBlock 0::td83
abbrev td85:List Item:=.inLoop (cd42 [1,1,0,1,0,0])::td84
abbrev td86:List Item:=.code (cd42 [1,1,0,1,0,0])::td85
abbrev td87:List Item:=.code (cd42 [1,1,0,1,0,0,1,1,1])::td85
abbrev td88:List Item:=.inBlock 1::td87
def state_Sort.l0 (a0 t29 : List api_Final) (t33 : Int) : Option (List api_Final) :=
  (if (decide (t33 < (a0.length : Int))) = true then (if 0 ≤ t33 ∧ t33 < (a0.length : Int) then (state_Check.f (gt a0 t33) >>= (fun t58 => (if (t58 == 0) = true then (if (t29.length + ([(gt a0 t33)] : List api_Final).length) * 392 ≤ 140737488355328 then (state_Sort.l0 a0 (t29 ++ ([(gt a0 t33)] : List api_Final)) (IntKind.i64.wrap (t33 + 1))) else none) else (state_Sort.l0 a0 (id t29) (IntKind.i64.wrap (t33 + 1)))))) else none) else some (t29))
 partial_fixpoint
def state_Sort.f (a0 : List api_Final) : Option (List api_Final) :=
  (state_Sort.l0 a0 [] 0 >>= (fun t4 => (if t4.length < 4611686018427387904 then (sortR state_Compare.f t4 >>= fun t15 => (slices_Compact___api_Final_api_Final.f t15 >>= (fun t20 => some (t20)))) else none)))
theorem state_Sort.ok {a0 : List api_Final} {Aa0 : Option Addr} {ca0 : Nat} {q0 : List api_Final} (hp0 : state_Sort.f a0 = some q0) (hS0 : St w0 Z (fs) w) (ha0 : SlZ (flat enc_api_Final) 49 Z Aa0 ca0 a0) :
    Calls Try.prog 42 #[.slice Aa0 a0.length ca0] w (fun e w' => ∃ (QA0 : Option Addr) (Qc0 : Nat),e = .returned (.slice QA0 q0.length Qc0) ∧ St w0 Z (xrow QA0 Qc0 84 49 (q0.flatMap enc_api_Final)::fs) w'):=by
  refine calls_abs ?_; intro R hR
  unfold state_Sort.f at hp0
  refine calls_of_runs (fn:=Try.f42) (c:=cd42 []) Try.func42 (by kernel_rfl) (al:=[.slice Aa0 a0.length ca0]) rfl (n:=23) rfl ?_
  refine sR 17 td86 ?_
  obtain ⟨v1,hv2,hp3⟩:=bind_some' hp0
  have J10 : ∀ (t4 : List api_Final) (he12 : t4 = v1) (l11 : List Value) (A5 : Option Addr) (c6 : Nat) (w8 : World) (hS9 : St w0 Z (xrow A5 c6 84 49 (t4.flatMap enc_api_Final)::fs) w8),Runs Try.prog (fx 42) td83 (fill (mk 24 [(3,.slice A5 t4.length c6)]) l11) w8 R:=by
   intro t4 he12 l11 A5 c6 w8 hS9
   subst he12
   try dsimp only at hp3
   refine sR 3 [.inRegion (opsOf (cd42 [1,1,1,0])) [1],.code (cd42 [1,1,1,1])] ?_
   obtain ⟨g13,hp14⟩:=ite_some hp3
   obtain ⟨t15,hr16,hp17⟩:=bind_some' hp14
   refine rC (sort_callsR (enc:=enc_api_Final) (e:=84) (k:=49) (g:=51) (xs:=t4) (ys:=t15) (A:=A5) (cp:=c6) (cmp:=state_Compare.f) sort50 (by kernel_rfl) (by kernel_rfl) len_api_Final one_api_Final (by omega) (enters_of Try.func51 (by kernel_rfl) rfl) hS9 (fun x y r W h => (state_Compare.ok x y (St.start0 W) h).mono fun e w' h => ⟨h.1,h.2.fr.with (h.2.dr trivial)⟩) g13 hr16) ?_
   rintro _ w18 ⟨rfl,hS19⟩
   refine ⟨_,rfl,?_⟩
   refine rF [none,none,none,some (.slice A5 t4.length c6),none,none,none,none,none,none,none,none,none,none,none,none,none,none,none,none,some (.slice A5 t4.length c6),none,none,none] ?_
   refine Runs.refill (m':=[none,none,none,some (.slice A5 t15.length c6),none,none,none,none,none,none,none,none,none,none,none,none,none,none,none,none,some (.slice A5 t15.length c6),none,none,none]) (by simp only [sortR_len hr16]) ?_
   refine sR 4 [.inRegion (opsOf (cd42 [1,1,1,1,0])) [1,2],.code (cd42 [1,1,1,1,1])] ?_
   obtain ⟨t20,hr23,hp24⟩:=bind_some' hp17
   refine rC (slices_Compact___api_Final_api_Final.ok hr23 hS19) ?_
   rintro _ w26 ⟨Q21,Q22,rfl,hS27⟩
   refine ⟨_,rfl,?_⟩
   refine sR 2 [.code (cd42 [1,1,1,1,1])] ?_
   refine rR (.slice Q21 t20.length Q22) Try.func42 ?_
   cases Option.some.inj hp24
   exact hR _ _ ⟨Q21,Q22,rfl,hS27⟩
  have L42 : ∀ (t29 : List api_Final) (t33 : Int) (e37 : (List api_Final)),state_Sort.l0 a0 t29 t33 = some e37 → e37 = v1 → ∀ (l36 : List Value) (A30 : Option Addr) (c31 : Nat) (w34 : World) (hS35 : St w0 Z (xrow A30 c31 84 49 (t29.flatMap enc_api_Final)::fs) w34),Runs Try.prog (fx 42) td86 (fill (mk 24 [(3,.slice A30 t29.length c31),(6,.slice Aa0 a0.length ca0),(7,.int .i64 (a0.length : Int)),(8,.int .i64 t33)]) l36) w34 R:=by
   refine state_Sort.l0.partial_correctness a0 (fun t29 t33 e37 => e37 = v1 → ∀ (l36 : List Value) (A30 : Option Addr) (c31 : Nat) (w34 : World) (hS35 : St w0 Z (xrow A30 c31 84 49 (t29.flatMap enc_api_Final)::fs) w34),Runs Try.prog (fx 42) td86 (fill (mk 24 [(3,.slice A30 t29.length c31),(6,.slice Aa0 a0.length ca0),(7,.int .i64 (a0.length : Int)),(8,.int .i64 t33)]) l36) w34 R) ?_
   intro rec41 ih40 t29 t33 e37 hb39 he38 l36 A30 c31 w34 hS35
   refine sI 3 (.inRegion (opsOf (cd42 [1,1,0,1,0,0,0])) []::.code (cd42 [1,1,0,1,0,0,1])::td85) 9 hb39 (fun hp45 => ?_) fun hp84 => ?_
   ·refine sR 8 (iR p42_8 0 4::.code (cd42 [1,1,0,1,0,0,1,1,0,0,1])::td88) ?_
    obtain ⟨g46,hp47⟩:=ite_some hp45
    obtain ⟨b48,p49,hA50,hc51⟩:=ha0.atF g46.1 g46.2
    refine r_indexAddr (c:=p42_8) (i:=0) (d:=(some 10)) (ty:=0) (t:=39) (e:=84) (n:=a0.length) (cp:=ca0) (sz:=49) (kk:=.i64) (x:=(.tmp 6)) (y:=(.tmp 8)) (b:=b48) (o':=p49) (j:=t33) (by kernel_rfl) (by kernel_rfl) (slv (by kernel_rfl) hA50) (by kernel_rfl) (by kernel_rfl) (by kernel_rfl) g46.1 g46.2 ?_
    refine rL 84 (.tmp 10) (loads_agg (hc51.cells hS35) (by kernel_rfl) (lenK (len_api_Final _) (by kernel_rfl))) ?_
    refine rA 84 (.agg (enc_api_Final (⟨0,(Vector.replicate 48 0)⟩ : api_Final)).toArray) (enc_api_Final (⟨0,(Vector.replicate 48 0)⟩ : api_Final)) hS35 ?_
    intro b52 w53 hS54
    refine r_store (c:=p42_8) (i:=3) (d:=none) (ty:=0) (t:=84) (x:=(.tmp 5)) (y:=(.tmp 11)) (b:=b52) (o:=0) (e:=84) (cs:=enc_api_Final (⟨0,(Vector.replicate 48 0)⟩ : api_Final)) (v:=.agg (enc_api_Final (gt a0 t33)).toArray) (vs:=enc_api_Final (gt a0 t33)) (cs':=enc_api_Final (gt a0 t33)) hS54 (by kernel_rfl) (by kernel_rfl) (by kernel_rfl) (by kernel_rfl) (by kernel_rfl) (lenK (len_api_Final _) (by kernel_rfl)) (one_api_Final _) (by simp only [len_api_Final,List.length_cons,List.length_nil,List.length_append]; omega) (over_all ((len_api_Final _).trans (len_api_Final _).symm)) ?_
    intro w56 hS57
    refine sR 3 (.inRegion (opsOf p42_11) [0,1,2]::.code p42_12::td88) ?_
    refine rL 84 (.tmp 5) (loads_agg (hS57.blk 0 rfl) (by kernel_rfl) (lenK (len_api_Final _) (by kernel_rfl))) ?_
    obtain ⟨t58,hr59,hp60⟩:=bind_some' hp47
    refine rC (state_Check.ok hr59 hS57) ?_
    rintro _ w61 ⟨rfl,hS62⟩
    refine ⟨_,rfl,?_⟩
    refine sI 1 (.inRegion (opsOf p42_11) []::.code p42_12::td88) 14 hp60 (fun hp65 => ?_) fun hp82 => ?_
    ·refine sR 4 (iR p42_13 1 4::td88) ?_
     refine rL 84 (.tmp 5) (loads_agg (hS62.blk 0 rfl) (by kernel_rfl) (lenK (len_api_Final _) (by kernel_rfl))) ?_
     refine r_lit (c:=p42_13) (i:=2) (d:=(some 17)) (ty:=39) (t:=39) (e:=84) (sz:=49) (n:=1) (parts:=#[(0,(.tmp 16))]) (vs:=[(0,.agg (enc_api_Final (gt a0 t33)).toArray)]) (z:=zeroOf Try.prog 84) (cs':=([(gt a0 t33)] : List api_Final).flatMap enc_api_Final) hS62 (by kernel_rfl) (by kernel_rfl) (by kernel_rfl) (by kernel_rfl) (by kernel_rfl) (by decide) (by decide) (by kernel_rfl) rfl (Parts.cons (c:=enc_api_Final (gt a0 t33)) (by kernel_rfl) (len_api_Final _) Parts.nil) rfl ?_
     intro b67 w68 hS69
     have hS70:=hS69.pick2
     obtain ⟨g71,hp72⟩:=ite_some hp65
     refine r_append (c:=p42_13) (i:=3) (d:=(some 18)) (ty:=39) (enc:=enc_api_Final) (e:=84) (u:=84) (t:=39) (t2:=39) (sz:=49) (cp:=c31) (A:=A30) (bytes:=392) (xs:=t29) (ys:=([(gt a0 t33)] : List api_Final)) (s:=(.tmp 15)) (x:=(.tmp 17)) (xv:=.slice (some ⟨b67,0,none⟩) ([(gt a0 t33)] : List api_Final).length 1) (info:=infoOf Try.prog 84) (z:=zeroOf Try.prog 84) (ycs:=([(gt a0 t33)] : List api_Final).flatMap enc_api_Final) hS70 (by kernel_rfl) (by kernel_rfl) (by kernel_rfl) (by kernel_rfl) (by kernel_rfl) (.inl (by kernel_rfl)) (by kernel_rfl) (by kernel_rfl) (by kernel_rfl) (by kernel_rfl) (by kernel_rfl) (by omega) len_api_Final one_api_Final (src_row (hS70.row 1 rfl) (by omega) len_api_Final) rfl g71 (by omega) ?_
     intro A73 c74 w75 hS76
     refine sR 7 td85 ?_
     have hS78:=hS76.pick1
     have hS79:=hS78.drop
     have hS80:=hS79.pick1
     have hS81:=hS80.drop
     refine sR 1 td86 ?_
     exact rF _ (ih40 (t29 ++ ([(gt a0 t33)] : List api_Final)) (IntKind.i64.wrap (t33 + 1)) _ hp72 he38 _ A73 c74 _ hS81)
    refine sR 8 td85 ?_
    have hS83:=hS62.drop
    refine sR 1 td86 ?_
    exact rF _ (ih40 (id t29) (IntKind.i64.wrap (t33 + 1)) _ hp82 he38 _ A30 c31 _ hS83)
   refine sR 4 td83 ?_
   exact rF _ (J10 t29 ((Option.some.inj hp84).trans he38) _ A30 c31 _ hS35)
  have hS86:=hS0.nilrow none 84 49
  exact rF _ (L42 [] 0 _ hv2 rfl _ none 0 _ hS86)

noncomputable def cd22 (p : List Nat) : Code := sub (bodyOf Try.f22) p
abbrev p22_6:=cd22 [1,1,1]
abbrev p22_14:=cd22 [1,1,1,1,1,0,1,0,0]
abbrev p22_19:=cd22 [1,1,1,1,1,0,1,0,0,1,1,0,0,0]
abbrev p22_22:=cd22 [1,1,1,1,1,0,1,0,0,1,1,0,0,1,0]
abbrev p22_23:=cd22 [1,1,1,1,1,0,1,0,0,1,1,0,0,1,1]
abbrev p22_24:=cd22 [1,1,1,1,1,0,1,0,0,1,1,0,0,1,1,0]
abbrev p22_25:=cd22 [1,1,1,1,1,0,1,0,0,1,1,0,0,1,1,1]
abbrev p22_26:=cd22 [1,1,1,1,1,0,1,0,0,1,1,0,0,1,1,1,0]
abbrev p22_31:=cd22 [1,1,1,1,1,0,1,0,0,1,1,0,0,1,1,1,1,1,1,1,0]
abbrev p22_32:=cd22 [1,1,1,1,1,0,1,0,0,1,1,0,0,1,1,1,1,1,0,0]
abbrev p22_33:=cd22 [1,1,1,1,1,0,1,0,0,1,1,0,0,1,1,1,1,1,0,1]
abbrev td89:List Item:=[.code (cd22 [1,1,1,1,1,1])]
abbrev td90:List Item:=.inBlock 0::td89
abbrev td91:List Item:=.inLoop p22_14::td90
abbrev td92:List Item:=.code p22_14::td91
abbrev td93:List Item:=.code (cd22 [1,1,1,1,1,0,1,0,0,1,1,1])::td91
abbrev td94:List Item:=.inBlock 1::td93
abbrev td95:List Item:=.code (cd22 [1,1,1,1,1,0,1,0,0,1,1,0,0,1,1,1,1])::td94
def explore_Explore.l0 (a0_1c1v : weirlaw14_Net) (t9 : List ByteArray) (t10 : List (ByteArray × (List explore_edge))) (t13 t14 : List (ByteArray × Int)) (t146 : List api_Final) (t150 : Int) (t151 : Bool) (t152 : List (ByteArray × Int)) (t153 : api_Tally) : Option ((List api_Final) × api_Tally × Bool × (List (ByteArray × Int))) :=
  (if (decide (t150 < (t9.length : Int))) = true then (if 0 ≤ t150 ∧ t150 < (t9.length : Int) then (weirlaw14_Net__machine_3.f (gt t9 t150) t13 t152 t14 t151 a0_1c1v >>= (fun (t181,t182,t183,t184) => (if t182 = true then (if (t146.length + ([t181] : List api_Final).length) * 392 ≤ 140737488355328 then (explore_Explore.l0 a0_1c1v t9 t10 t13 t14 (t146 ++ ([t181] : List api_Final)) (IntKind.i64.wrap (t150 + 1)) t183 t184 (⟨t153.States,(IntKind.i64.wrap (t153.Moves + (((mget t10 (gt t9 t150)).getD []).length : Int))),(IntKind.i64.wrap (t153.Ends + 1)),t153.Stuck⟩ : api_Tally)) else none) else (if ((((mget t10 (gt t9 t150)).getD []).length : Int) == 0) = true then (explore_Explore.l0 a0_1c1v t9 t10 t13 t14 (id t146) (IntKind.i64.wrap (t150 + 1)) t183 t184 (⟨t153.States,(IntKind.i64.wrap (t153.Moves + (((mget t10 (gt t9 t150)).getD []).length : Int))),t153.Ends,(IntKind.i64.wrap (t153.Stuck + 1))⟩ : api_Tally)) else (explore_Explore.l0 a0_1c1v t9 t10 t13 t14 (id t146) (IntKind.i64.wrap (t150 + 1)) t183 t184 (⟨t153.States,(IntKind.i64.wrap (t153.Moves + (((mget t10 (gt t9 t150)).getD []).length : Int))),t153.Ends,t153.Stuck⟩ : api_Tally)))))) else none) else some ((t146,t153,t151,t152)))
 partial_fixpoint
def explore_Explore.f (y9 : ByteArray) (a0_1c0vv_0m a0_1c0vv_1m a0_1c0vv_2m : List (ByteArray × Int)) (a0_1c0vv_3 : Bool) (a0_1c1v : weirlaw14_Net) (a1 : Int) : Option ((List api_Final) × api_Tally × Int × Bool × (List (ByteArray × Int)) × (List (ByteArray × Int)) × (List (ByteArray × Int))) :=
  (explore_all.f y9 a0_1c0vv_0m a0_1c0vv_1m a0_1c0vv_2m a0_1c0vv_3 a0_1c1v a1 >>= (fun (t9,t10,t11,t12,t13,t14) => (if (!t11) = true then some (([],(⟨0,0,0,0⟩ : api_Tally),1,t12,t13,a0_1c0vv_1m,t14)) else (explore_Explore.l0 a0_1c1v t9 t10 t13 t14 [] 0 t12 a0_1c0vv_1m (⟨(t9.length : Int),0,0,0⟩ : api_Tally) >>= (fun (t74,t78,t79,t80) => (state_Sort.f t74 >>= (fun t91 => some ((t91,t78,0,t79,t13,t80,t14)))))))))
theorem explore_Explore.ok {y9 : ByteArray} {a0_1c0vv_0m a0_1c0vv_1m a0_1c0vv_2m : List (ByteArray × Int)} {a0_1c0vv_3 : Bool} {a0_1c1v : weirlaw14_Net} {a1 : Int} {ba0_1c0 ba0_1c0v : Nat} {ba0_1c0vv_0 ba0_1c0vv_1 : Nat} {ba0_1c0vv_2 ba0_1c1 : Nat} {Aa0_1c1v_0 : Option Addr} {ca0_1c1v_0 : Nat} {Aa0_1c1v_1 : Option Addr} {ca0_1c1v_1 : Nat} {Aa0_1c1v_2 : Option Addr} {ca0_1c1v_2 : Nat} {q0 : List api_Final} {q1 : api_Tally} {q2 : Int} {q3 : Bool} {q4 q5 q6 : List (ByteArray × Int)} (hp0 : explore_Explore.f y9 a0_1c0vv_0m a0_1c0vv_1m a0_1c0vv_2m a0_1c0vv_3 a0_1c1v a1 = some (q0,q1,q2,q3,q4,q5,q6)) (hS0 : St w0 Z (xblk ba0_1c0 33 ([.pointer (some ⟨ba0_1c0v,0,none⟩)])::xblk ba0_1c0v 49 ([.map (some ba0_1c0vv_0),.map (some ba0_1c0vv_1),.map (some ba0_1c0vv_2),.bool a0_1c0vv_3])::xmap ba0_1c0vv_0 (a0_1c0vv_0m.map (kv Value.string (Value.int .i64)))::xmap ba0_1c0vv_1 (a0_1c0vv_1m.map (kv Value.string (Value.int .i64)))::xmap ba0_1c0vv_2 (a0_1c0vv_2m.map (kv Value.string (Value.int .i64)))::xblk ba0_1c1 26 ([.slice Aa0_1c1v_0 a0_1c1v.Next.length ca0_1c1v_0,.slice Aa0_1c1v_1 a0_1c1v.End.length ca0_1c1v_1,.slice Aa0_1c1v_2 a0_1c1v.Value.length ca0_1c1v_2,.int .i64 a0_1c1v.Start])::fs) w) (ha0_1c1v_0 : SlZ (repL (flat (encI .i64)) 1) 1 Z Aa0_1c1v_0 ca0_1c1v_0 a0_1c1v.Next) (ha0_1c1v_1 : SlZ (flat encB) 1 Z Aa0_1c1v_1 ca0_1c1v_1 a0_1c1v.End) (ha0_1c1v_2 : SlZ (flat (encI .i64)) 1 Z Aa0_1c1v_2 ca0_1c1v_2 a0_1c1v.Value) :
    Calls Try.prog 22 #[.agg #[.string y9,.func (.func 28) #[] #[.pointer (some ⟨ba0_1c0,0,none⟩),.pointer (some ⟨ba0_1c1,0,none⟩)],.func (.func 31) #[] #[.pointer (some ⟨ba0_1c1,0,none⟩),.pointer (some ⟨ba0_1c0,0,none⟩)],.func (.func 32) #[] #[.pointer (some ⟨ba0_1c0,0,none⟩),.pointer (some ⟨ba0_1c1,0,none⟩)]],.int .i64 a1] w (fun e w' => ∃ (QA0 : Option Addr) (Qc0 : Nat),e = .returned (.tuple #[.slice QA0 q0.length Qc0,.agg (enc_api_Tally q1).toArray,.int .i64 q2]) ∧ St w0 Z (xrow QA0 Qc0 84 49 (q0.flatMap enc_api_Final)::xblk ba0_1c0 33 ([.pointer (some ⟨ba0_1c0v,0,none⟩)])::xblk ba0_1c0v 49 ([.map (some ba0_1c0vv_0),.map (some ba0_1c0vv_1),.map (some ba0_1c0vv_2),.bool q3])::xmap ba0_1c0vv_0 (q4.map (kv Value.string (Value.int .i64)))::xmap ba0_1c0vv_1 (q5.map (kv Value.string (Value.int .i64)))::xmap ba0_1c0vv_2 (q6.map (kv Value.string (Value.int .i64)))::xblk ba0_1c1 26 ([.slice Aa0_1c1v_0 a0_1c1v.Next.length ca0_1c1v_0,.slice Aa0_1c1v_1 a0_1c1v.End.length ca0_1c1v_1,.slice Aa0_1c1v_2 a0_1c1v.Value.length ca0_1c1v_2,.int .i64 a0_1c1v.Start])::fs) w'):=by
  refine calls_abs ?_; intro R hR
  unfold explore_Explore.f at hp0
  refine calls_of_runs (fn:=Try.f22) (c:=cd22 []) Try.func22 (by kernel_rfl) (al:=[.agg #[.string y9,.func (.func 28) #[] #[.pointer (some ⟨ba0_1c0,0,none⟩),.pointer (some ⟨ba0_1c1,0,none⟩)],.func (.func 31) #[] #[.pointer (some ⟨ba0_1c1,0,none⟩),.pointer (some ⟨ba0_1c0,0,none⟩)],.func (.func 32) #[] #[.pointer (some ⟨ba0_1c0,0,none⟩),.pointer (some ⟨ba0_1c1,0,none⟩)]],.int .i64 a1]) rfl (n:=70) rfl ?_
  refine sR 2 [iR (cd22 [0]) 0 4,.code (cd22 [1])] ?_
  refine r_box (c:=(cd22 [0])) (i:=0) (d:=(some 2)) (ty:=0) (x:=(.tmp 0)) (v:=.agg #[.string y9,.func (.func 28) #[] #[.pointer (some ⟨ba0_1c0,0,none⟩),.pointer (some ⟨ba0_1c1,0,none⟩)],.func (.func 31) #[] #[.pointer (some ⟨ba0_1c1,0,none⟩),.pointer (some ⟨ba0_1c0,0,none⟩)],.func (.func 32) #[] #[.pointer (some ⟨ba0_1c0,0,none⟩),.pointer (some ⟨ba0_1c1,0,none⟩)]]) (t:=32) (cs:=[.string y9,.func (.func 28) #[] #[.pointer (some ⟨ba0_1c0,0,none⟩),.pointer (some ⟨ba0_1c1,0,none⟩)],.func (.func 31) #[] #[.pointer (some ⟨ba0_1c1,0,none⟩),.pointer (some ⟨ba0_1c0,0,none⟩)],.func (.func 32) #[] #[.pointer (some ⟨ba0_1c0,0,none⟩),.pointer (some ⟨ba0_1c1,0,none⟩)]]) hS0 (by kernel_rfl) (by kernel_rfl) (by kernel_rfl) (by kernel_rfl) ?_
  intro b1 w2 hS3
  refine sR 1 [.inRegion (opsOf (cd22 [0])) [2,3],.code (cd22 [1])] ?_
  refine rA 70 (.agg (enc_api_Tally (⟨0,0,0,0⟩ : api_Tally)).toArray) (enc_api_Tally (⟨0,0,0,0⟩ : api_Tally)) hS3 ?_
  intro b5 w6 hS7
  refine sR 4 [iR (cd22 [1,0]) 0 9,.code (cd22 [1,1])] ?_
  refine rLa 32 (.tmp 2) (hS7.blk 1 rfl) ?_
  refine sR 1 [iR (cd22 [1,0]) 2 7,.code (cd22 [1,1])] ?_
  obtain ⟨⟨t9,t10,t11,t12,t13,t14⟩,hr20,hp21⟩:=bind_some' hp0
  try dsimp only at hp21
  have hS27:=hS7.pick7
  have hS28:=hS27.pick7
  have hS29:=hS28.pick7
  have hS30:=hS29.pick7
  have hS31:=hS30.pick7
  have hS32:=hS31.pick7
  refine rC (explore_all.ok hr20 hS32 ha0_1c1v_0 ha0_1c1v_1 ha0_1c1v_2) ?_
  rintro _ w33 ⟨Q15,Q16,Q17,Q18,Q19,Z35,hz36,rfl,hS34,hs37⟩
  refine ⟨_,rfl,?_⟩
  refine sR 3 [.inRegion (opsOf (cd22 [1,0])) [6,7,8],.code (cd22 [1,1])] ?_
  refine rA 109 (.agg #[.slice none 0 0,.map none,.map none]) [.slice none 0 0,.map none,.map none] hS34 ?_
  intro b38 w39 hS40
  refine rS 109 (.tmp 7) (.tmp 20) 0 (.agg #[.slice Q15 t9.length Q16,.map Q17,.map Q19]) [.slice Q15 t9.length Q16,.map Q17,.map Q19] [.slice Q15 t9.length Q16,.map Q17,.map Q19] hS40 ?_
  intro w42 hS43
  refine sI 7 [.inRegion (opsOf (cd22 [1,1,0,0])) [],.code (cd22 [1,1,0,1]),.code p22_6] 23 hp21 (fun hp46 => ?_) fun hp64 => ?_
  ·refine sR 6 [.inRegion (opsOf (cd22 [1,1,0,1,0,0])) [2,3],.code (cd22 [1,1,0,1,0,1]),.code p22_6] ?_
   have hS47:=hS43.pick9
   refine rSA 70 (.tmp 5) (.tmp 24) (enc_api_Tally (⟨0,0,0,0⟩ : api_Tally)) hS47 (one_api_Tally _) ?_
   intro w48 hS49
   refine sR 2 [.code (cd22 [1,1,0,1,0,1]),.code p22_6] ?_
   have hS51:=hS49.nilrow none 84 49
   have hS52:=hS51.pick1
   have hS53:=hS52.drop
   have hS54:=hS53.pick1
   have hS55:=hS54.drop
   have hS56:=hS55.pick1
   have hS57:=hS56.drop
   have hS58:=hS57.pick1
   have hS59:=hS58.drop
   have hS60:=hS59.pick7
   have hS61:=hS60.drop
   have hS62:=hS61.less hz36
   refine rRc (.tuple #[.slice none 0 0,.agg (enc_api_Tally (⟨0,0,0,0⟩ : api_Tally)).toArray,.int .i64 1]) (.tm 4 (.ca 5 70 (hS49.blk 0 rfl) (.tm 6 .nil))) Try.func22 ?_
   cases Option.some.inj hp46
   exact hR _ _ ⟨none,0,rfl,hS62⟩
  refine sR 10 [iR (cd22 [1,1,1,1,0]) 1 5,.code (cd22 [1,1,1,1,1])] ?_
  refine rL1 36 (.tmp 25) 0 (hS43.blk 0 rfl) ?_
  refine sR 2 [.inRegion (opsOf (cd22 [1,1,1,1,0])) [4,5],.code (cd22 [1,1,1,1,1])] ?_
  refine rA 70 (.agg (enc_api_Tally (⟨0,0,0,0⟩ : api_Tally)).toArray) (enc_api_Tally (⟨0,0,0,0⟩ : api_Tally)) hS43 ?_
  intro b65 w66 hS67
  refine rSA 70 (.tmp 10) (.tmp 28) (enc_api_Tally (⟨(t9.length : Int),0,0,0⟩ : api_Tally)) hS67 (one_api_Tally _) ?_
  intro w69 hS70
  refine sR 5 (.inRegion (opsOf (cd22 [1,1,1,1,1,0,0])) [1,2,3]::.code (cd22 [1,1,1,1,1,0,1])::td89) ?_
  refine rL1 36 (.tmp 29) 0 (hS70.blk 1 rfl) ?_
  refine sR 5 td92 ?_
  obtain ⟨v71,hv72,hp73⟩:=bind_some' hp64
  have J83 : ∀ (t74 : List api_Final) (t78 : api_Tally) (t79 : Bool) (t80 : List (ByteArray × Int)) (he85 : (t74,t78,t79,t80) = v71) (l84 : List Value) (A75 : Option Addr) (c76 : Nat) (w81 : World) (hS82 : St w0 Z35 (xblk b5 70 (enc_api_Tally (⟨0,0,0,0⟩ : api_Tally))::xrow A75 c76 84 49 (t74.flatMap enc_api_Final)::xblk b65 70 (enc_api_Tally t78)::xblk ba0_1c0 33 ([.pointer (some ⟨ba0_1c0v,0,none⟩)])::xblk ba0_1c0v 49 ([.map (some ba0_1c0vv_0),.map (some ba0_1c0vv_1),.map (some ba0_1c0vv_2),.bool t79])::xmap ba0_1c0vv_0 (t13.map (kv Value.string (Value.int .i64)))::xmap ba0_1c0vv_1 (t80.map (kv Value.string (Value.int .i64)))::xmap ba0_1c0vv_2 (t14.map (kv Value.string (Value.int .i64)))::xblk ba0_1c1 26 ([.slice Aa0_1c1v_0 a0_1c1v.Next.length ca0_1c1v_0,.slice Aa0_1c1v_1 a0_1c1v.End.length ca0_1c1v_1,.slice Aa0_1c1v_2 a0_1c1v.Value.length ca0_1c1v_2,.int .i64 a0_1c1v.Start])::fs) w81),Runs Try.prog (fx 22) td89 (fill (mk 72 [(5,.pointer (some ⟨b5,0,none⟩)),(9,.slice A75 t74.length c76),(10,.pointer (some ⟨b65,0,none⟩))]) l84) w81 R:=by
   intro t74 t78 t79 t80 he85 l84 A75 c76 w81 hS82
   subst he85
   try dsimp only at hp73
   refine sR 1 [.code (cd22 [1,1,1,1,1,1,0]),.code (cd22 [1,1,1,1,1,1,1])] ?_
   have hS86:=hS82.pick2
   have hS87:=hS86.pick2
   have hS88:=hS87.pick2
   generalize hg90 : (xblk ba0_1c0 33 ([.pointer (some ⟨ba0_1c0v,0,none⟩)])::xblk ba0_1c0v 49 ([.map (some ba0_1c0vv_0),.map (some ba0_1c0vv_1),.map (some ba0_1c0vv_2),.bool t79])::xmap ba0_1c0vv_0 (t13.map (kv Value.string (Value.int .i64)))::xmap ba0_1c0vv_1 (t80.map (kv Value.string (Value.int .i64)))::xmap ba0_1c0vv_2 (t14.map (kv Value.string (Value.int .i64)))::xblk ba0_1c1 26 ([.slice Aa0_1c1v_0 a0_1c1v.Next.length ca0_1c1v_0,.slice Aa0_1c1v_1 a0_1c1v.End.length ca0_1c1v_1,.slice Aa0_1c1v_2 a0_1c1v.Value.length ca0_1c1v_2,.int .i64 a0_1c1v.Start])::fs) = gs89 at hS88
   obtain ⟨t91,hr92,hp93⟩:=bind_some' hp73
   refine r_drawnP (S:=Option (Option Addr × Nat) × Option Unit) (dn:=(fun (st : Option (Option Addr × Nat) × Option Unit) k => [st.1.isSome,st.2.isSome].getD k true)) (C:=(fun st w' => match st with | (none,none) => St w0 Z35 (xblk b5 70 (enc_api_Tally (⟨0,0,0,0⟩ : api_Tally))::xrow A75 c76 84 49 (t74.flatMap enc_api_Final)::xblk b65 70 (enc_api_Tally t78)::gs89) w' | (none,some _) => False | (some x94,none) => St w0 Z35 (xrow x94.1 x94.2 84 49 (t91.flatMap enc_api_Final)::xblk b5 70 (enc_api_Tally (⟨0,0,0,0⟩ : api_Tally))::xrow A75 c76 84 49 (t74.flatMap enc_api_Final)::xblk b65 70 (enc_api_Tally t78)::gs89) w' | (some x94,some _) => St w0 Z35 (xblk b5 70 (enc_api_Tally t78)::xrow x94.1 x94.2 84 49 (t91.flatMap enc_api_Final)::xrow A75 c76 84 49 (t74.flatMap enc_api_Final)::xblk b65 70 (enc_api_Tally t78)::gs89) w')) (v:=(fun st => match st with | (none,none) => [.slice A75 t74.length c76,undef,.agg (enc_api_Tally t78).toArray,undef,undef,undef] | (none,some _) => [.slice A75 t74.length c76,undef,.agg (enc_api_Tally t78).toArray,undef,undef,undef] | (some x94,none) => [.slice A75 t74.length c76,.slice x94.1 t91.length x94.2,.agg (enc_api_Tally t78).toArray,.slice x94.1 t91.length x94.2,undef,undef] | (some x94,some _) => [.slice A75 t74.length c76,.slice x94.1 t91.length x94.2,.agg (enc_api_Tally t78).toArray,.slice x94.1 t91.length x94.2,undef,.int .i64 0])) (c:=(cd22 [1,1,1,1,1,1,0])) (id:=18) (none,none) 4 6 [1,4] [[],[],[],[0],[0],[0,1]] [[0,1],[1],[1],[1],[],[]] [] [true,true,true,true,true,true] (by kernel_rfl) (by kernel_rfl) (by kernel_rfl) (by kernel_rfl) (by kernel_rfl) (by kernel_rfl) (by kernel_rfl) (by kernel_rfl) (by kernel_rfl) (fun k hk => match k,hk with | 0,_ => rfl | 1,_ => rfl | k + 2,hk => absurd hk (by simp)) hS88.drew ?_ (fun k hk => match k,hk with | 0,_ => rfl | 1,_ => rfl | k + 2,hk => absurd hk (by simp)) ?_ ?_ ?_
   ·intro i hi st w hC hd
    match i,hi with
    | 0,_ => (show _ = _; kernel_rfl)
    | 1,_ => (show _ = _; kernel_rfl)
    | 2,_ => (show _ = _; kernel_rfl)
    | 3,_ => (show _ = _; kernel_rfl)
    | 4,_ => (show _ = _; kernel_rfl)
    | 5,_ => (show _ = _; kernel_rfl)
    | i + 6,hi => exact absurd hi (by omega)
   ·intro i hi he st w hC hd hu
    match i,hi,he with
    | 0,_,_ =>
     rcases st with ⟨_ | x94,_ | _⟩
     ·dsimp only at hC
      exact dG (.slice A75 t74.length c76) hC
     ·exact False.elim hC
     ·exact Bool.noConfusion (hu 0 (by decide))
     ·exact Bool.noConfusion (hu 0 (by decide))
    | 1,_,he => exact absurd he (by decide)
    | 2,_,_ =>
     rcases st with ⟨_ | x94,_ | _⟩
     ·dsimp only at hC
      exact ⟨fun _ => does_run (x_load (t:=70) (x:=(.tmp 10)) (p:=⟨b65,0,none⟩) (v:=.agg (enc_api_Tally t78).toArray) (by kernel_rfl) (loads_agg (hC.blk 2 rfl) (by kernel_rfl) (by kernel_rfl)) (by kernel_rfl)) rfl hC,fun h => absurd h (by decide)⟩
     ·exact False.elim hC
     ·dsimp only at hC
      exact ⟨fun _ => does_run (x_load (t:=70) (x:=(.tmp 10)) (p:=⟨b65,0,none⟩) (v:=.agg (enc_api_Tally t78).toArray) (by kernel_rfl) (loads_agg (hC.blk 3 rfl) (by kernel_rfl) (by kernel_rfl)) (by kernel_rfl)) rfl hC,fun h => absurd h (by decide)⟩
     ·exact Bool.noConfusion (hu 1 (by decide))
    | 3,_,_ =>
     rcases st with ⟨_ | x94,_ | _⟩
     ·exact Bool.noConfusion (hd 0 (by decide))
     ·exact False.elim hC
     ·dsimp only at hC
      exact dG (.slice x94.1 t91.length x94.2) hC
     ·exact Bool.noConfusion (hu 1 (by decide))
    | 4,_,he => exact absurd he (by decide)
    | 5,_,_ =>
     rcases st with ⟨_ | x94,_ | _⟩
     ·exact Bool.noConfusion (hd 0 (by decide))
     ·exact False.elim hC
     ·exact Bool.noConfusion (hd 1 (by decide))
     ·dsimp only at hC
      exact dG (.int .i64 0) hC
    | i + 6,hi,_ => exact absurd hi (by omega)
   ·intro k hk st w hC hr hm
    match k,hk with
    | 0,_ =>
     rcases st with ⟨_ | x94,_ | _⟩
     ·dsimp only at hC
      have hS122:=hC.pick1
      obtain ⟨Z123,hz124,hS125,hs126,hb127⟩:=hS122.lendrow len_api_Final (by omega)
      refine does_call (g:=42) (args:=#[.slice A75 t74.length c76]) (by kernel_rfl) (state_Sort.ok hr92 hS125 hs126) ?_
      rintro e w2 ⟨m128,m129,rfl,h2⟩
      refine ⟨_,rfl,?_⟩
      have hS130:=hb127 _ _ h2
      have hS131:=hS130.pick3
      have hS132:=hS131.pick1
      have hS133:=hS132.pick3
      have hS134:=hS133.pick3
      have h2:=hS134
      have h2:=h2.pick3
      have h2:=h2.pick3
      have h2:=h2.pick3
      have h2:=h2.pick3
      refine ⟨(some (m128,m129),none),rfl,?_,?_,.inr rfl,h2⟩
      ·intro m hne; match m,hne with
       | 0,hne => exact absurd rfl hne
       | 1,hne => exact rfl
       | m + 2,_ => exact rfl
      ·intro j hj; match j,hj with
       | 0,hj => exact rfl
       | 1,hj => exact absurd (by decide) hj
       | 2,hj => exact rfl
       | 3,hj => exact absurd (by decide) hj
       | 4,hj => exact absurd (by decide) hj
       | 5,hj => exact absurd (by decide) hj
       | j + 6,_ => exact rfl
     ·exact False.elim hC
     ·exact Bool.noConfusion hr
     ·exact Bool.noConfusion hr
    | 1,_ =>
     rcases st with ⟨_ | x94,_ | _⟩
     ·exact Bool.noConfusion (hm 0 (by decide))
     ·exact False.elim hC
     ·dsimp only at hC
      have hC:=hC.pick1
      refine dSG 70 (.tmp 5) (.tmp 71) 0 (.agg (enc_api_Tally t78).toArray) (enc_api_Tally t78) (enc_api_Tally t78) hC (one_api_Tally _) ?_
      intro w2 h2
      have h2:=h2.pick3
      have h2:=h2.pick3
      have h2:=h2.pick3
      have h2:=h2.pick3
      refine ⟨(some x94,some ()),rfl,?_,?_,.inl rfl,h2⟩
      ·intro m hne; match m,hne with
       | 0,hne => exact rfl
       | 1,hne => exact absurd rfl hne
       | m + 2,_ => exact rfl
      ·intro j hj; match j,hj with
       | 0,hj => exact rfl
       | 1,hj => exact rfl
       | 2,hj => exact rfl
       | 3,hj => exact rfl
       | 4,hj => exact absurd (by decide) hj
       | 5,hj => exact absurd (by decide) hj
       | j + 6,_ => exact rfl
     ·exact Bool.noConfusion hr
    | k + 2,hk => exact absurd hk (by simp)
   intro st138 w135 hS136 hr137
   rcases st138 with ⟨_ | x94,_ | _⟩
   ·exact Bool.noConfusion (hr137 0 (Nat.lt_of_sub_eq_succ rfl))
   ·exact Bool.noConfusion (hr137 0 (Nat.lt_of_sub_eq_succ rfl))
   ·exact Bool.noConfusion (hr137 1 (Nat.lt_of_sub_eq_succ rfl))
   replace hS136 : St w0 Z35 (xblk b5 70 (enc_api_Tally t78)::xrow x94.1 x94.2 84 49 (t91.flatMap enc_api_Final)::xrow A75 c76 84 49 (t74.flatMap enc_api_Final)::xblk b65 70 (enc_api_Tally t78)::gs89) w135:=hS136
   subst hg90
   have hS139:=hS136.drop
   have hS140:=hS139.pick1
   have hS141:=hS140.drop
   have hS142:=hS141.pick1
   have hS143:=hS142.drop
   have hS144:=hS143.less hz36
   refine rRc (.tuple #[.slice x94.1 t91.length x94.2,.agg (enc_api_Tally t78).toArray,.int .i64 0]) (.tm 4 (.ca 5 70 (hS136.blk 0 rfl) (.tm 6 .nil))) Try.func22 ?_
   cases Option.some.inj hp93
   exact hR _ _ ⟨x94.1,x94.2,rfl,hS144⟩
  have L162 : ∀ (t146 : List api_Final) (t150 : Int) (t151 : Bool) (t152 : List (ByteArray × Int)) (t153 : api_Tally) (e157 : ((List api_Final) × api_Tally × Bool × (List (ByteArray × Int)))),explore_Explore.l0 a0_1c1v t9 t10 t13 t14 t146 t150 t151 t152 t153 = some e157 → e157 = v71 → ∀ (l156 : List Value) (A147 : Option Addr) (c148 : Nat) (w154 : World) (hS155 : St w0 Z35 (xblk b1 32 ([.string y9,.func (.func 28) #[] #[.pointer (some ⟨ba0_1c0,0,none⟩),.pointer (some ⟨ba0_1c1,0,none⟩)],.func (.func 31) #[] #[.pointer (some ⟨ba0_1c1,0,none⟩),.pointer (some ⟨ba0_1c0,0,none⟩)],.func (.func 32) #[] #[.pointer (some ⟨ba0_1c0,0,none⟩),.pointer (some ⟨ba0_1c1,0,none⟩)]])::xblk ba0_1c0 33 ([.pointer (some ⟨ba0_1c0v,0,none⟩)])::xblk ba0_1c0v 49 ([.map (some ba0_1c0vv_0),.map (some ba0_1c0vv_1),.map (some ba0_1c0vv_2),.bool t151])::xmap ba0_1c0vv_0 (t13.map (kv Value.string (Value.int .i64)))::xmap ba0_1c0vv_1 (t152.map (kv Value.string (Value.int .i64)))::xmap ba0_1c0vv_2 (t14.map (kv Value.string (Value.int .i64)))::xblk ba0_1c1 26 ([.slice Aa0_1c1v_0 a0_1c1v.Next.length ca0_1c1v_0,.slice Aa0_1c1v_1 a0_1c1v.End.length ca0_1c1v_1,.slice Aa0_1c1v_2 a0_1c1v.Value.length ca0_1c1v_2,.int .i64 a0_1c1v.Start])::xblk b5 70 (enc_api_Tally (⟨0,0,0,0⟩ : api_Tally))::xblk b38 109 ([.slice Q15 t9.length Q16,.map Q17,.map Q19])::xrow Q15 Q16 9 1 (t9.flatMap encS)::xmo Q17 (Q18.map (kv Value.string eVH))::xrow A147 c148 84 49 (t146.flatMap enc_api_Final)::xblk b65 70 (enc_api_Tally t153)::fs) w154),Runs Try.prog (fx 22) td92 (fill (mk 72 [(2,.pointer (some ⟨b1,0,none⟩)),(5,.pointer (some ⟨b5,0,none⟩)),(7,.pointer (some ⟨b38,0,none⟩)),(9,.slice A147 t146.length c148),(10,.pointer (some ⟨b65,0,none⟩)),(30,.slice Q15 t9.length Q16),(31,.int .i64 (t9.length : Int)),(32,.int .i64 t150)]) l156) w154 R:=by
   refine explore_Explore.l0.partial_correctness a0_1c1v t9 t10 t13 t14 (fun t146 t150 t151 t152 t153 e157 => e157 = v71 → ∀ (l156 : List Value) (A147 : Option Addr) (c148 : Nat) (w154 : World) (hS155 : St w0 Z35 (xblk b1 32 ([.string y9,.func (.func 28) #[] #[.pointer (some ⟨ba0_1c0,0,none⟩),.pointer (some ⟨ba0_1c1,0,none⟩)],.func (.func 31) #[] #[.pointer (some ⟨ba0_1c1,0,none⟩),.pointer (some ⟨ba0_1c0,0,none⟩)],.func (.func 32) #[] #[.pointer (some ⟨ba0_1c0,0,none⟩),.pointer (some ⟨ba0_1c1,0,none⟩)]])::xblk ba0_1c0 33 ([.pointer (some ⟨ba0_1c0v,0,none⟩)])::xblk ba0_1c0v 49 ([.map (some ba0_1c0vv_0),.map (some ba0_1c0vv_1),.map (some ba0_1c0vv_2),.bool t151])::xmap ba0_1c0vv_0 (t13.map (kv Value.string (Value.int .i64)))::xmap ba0_1c0vv_1 (t152.map (kv Value.string (Value.int .i64)))::xmap ba0_1c0vv_2 (t14.map (kv Value.string (Value.int .i64)))::xblk ba0_1c1 26 ([.slice Aa0_1c1v_0 a0_1c1v.Next.length ca0_1c1v_0,.slice Aa0_1c1v_1 a0_1c1v.End.length ca0_1c1v_1,.slice Aa0_1c1v_2 a0_1c1v.Value.length ca0_1c1v_2,.int .i64 a0_1c1v.Start])::xblk b5 70 (enc_api_Tally (⟨0,0,0,0⟩ : api_Tally))::xblk b38 109 ([.slice Q15 t9.length Q16,.map Q17,.map Q19])::xrow Q15 Q16 9 1 (t9.flatMap encS)::xmo Q17 (Q18.map (kv Value.string eVH))::xrow A147 c148 84 49 (t146.flatMap enc_api_Final)::xblk b65 70 (enc_api_Tally t153)::fs) w154),Runs Try.prog (fx 22) td92 (fill (mk 72 [(2,.pointer (some ⟨b1,0,none⟩)),(5,.pointer (some ⟨b5,0,none⟩)),(7,.pointer (some ⟨b38,0,none⟩)),(9,.slice A147 t146.length c148),(10,.pointer (some ⟨b65,0,none⟩)),(30,.slice Q15 t9.length Q16),(31,.int .i64 (t9.length : Int)),(32,.int .i64 t150)]) l156) w154 R) ?_
   intro rec161 ih160 t146 t150 t151 t152 t153 e157 hb159 he158 l156 A147 c148 w154 hS155
   refine sI 3 (.inRegion (opsOf (cd22 [1,1,1,1,1,0,1,0,0,0])) []::.code (cd22 [1,1,1,1,1,0,1,0,0,1])::td91) 33 hb159 (fun hp165 => ?_) fun hp272 => ?_
   ·refine sR 8 (.inRegion (opsOf p22_19) [0,1,2]::.code (cd22 [1,1,1,1,1,0,1,0,0,1,1,0,0,1])::td94) ?_
    obtain ⟨g166,hp167⟩:=ite_some hp165
    obtain ⟨b168,p169,hA170,-⟩:=(hS155.row 9 rfl).at_ len_encS (by omega) g166.1 g166.2
    refine r_indexAddr (c:=p22_19) (i:=0) (d:=(some 34)) (ty:=0) (t:=36) (e:=9) (n:=t9.length) (cp:=Q16) (sz:=1) (kk:=.i64) (x:=(.tmp 30)) (y:=(.tmp 32)) (b:=b168) (o':=p169) (j:=t150) (by kernel_rfl) (by kernel_rfl) (slv (by kernel_rfl) hA170) (by kernel_rfl) (by kernel_rfl) (by kernel_rfl) g166.1 g166.2 ?_
    refine rL1 9 (.tmp 34) 0 ((hS155.row 9 rfl).at2 hA170 len_encS (by omega) g166.1 g166.2) ?_
    refine sR 5 (iR p22_22 1 5::.code p22_23::td94) ?_
    refine rL1 107 (.tmp 36) 1 (hS155.blk 8 rfl) ?_
    refine sR 1 (.inRegion (opsOf p22_22) [3,4,5]::.code p22_23::td94) ?_
    obtain ⟨A172,c173,hv174,hq175,hs176⟩:=MZ.get hs37 (gt t9 t150)
    refine rV (.lookup 107 (.tmp 37) (.tmp 38) false) (.slice A172 ((mget t10 (gt t9 t150)).getD []).length c173) (fun o ho _ => x_lookupZO1 (eK:=Value.string) (dk:=.string) (b:=Q17) (t:=107) (kt:=9) (et:=120) (mh:=Q18) (kk:=(gt t9 t150)) (hS155.at 10 rfl) hv174 key_str (by kernel_rfl) (by kernel_rfl) (by kernel_rfl) (by kernel_rfl) (by kernel_rfl) ho) ?_
    refine sR 6 (iR p22_24 1 5::.code p22_25::td94) ?_
    refine rL1 3 (.tmp 41) 1 (hS155.blk 12 rfl) ?_
    refine sR 3 (.inRegion (opsOf p22_24) [5]::.code p22_25::td94) ?_
    have hS178:=hS155.pick12
    refine rS 3 (.tmp 45) (.tmp 44) 1 (.int .i64 (IntKind.i64.wrap (t153.Moves + (((mget t10 (gt t9 t150)).getD []).length : Int)))) [.int .i64 (IntKind.i64.wrap (t153.Moves + (((mget t10 (gt t9 t150)).getD []).length : Int)))] (enc_api_Tally (⟨t153.States,(IntKind.i64.wrap (t153.Moves + (((mget t10 (gt t9 t150)).getD []).length : Int))),t153.Ends,t153.Stuck⟩ : api_Tally)) hS178 ?_
    intro w179 hS180
    refine sR 4 (iR p22_26 1 9::td95) ?_
    refine rL1 30 (.tmp 47) 3 (hS180.blk 1 rfl) ?_
    refine sR 1 (iR p22_26 3 7::td95) ?_
    obtain ⟨⟨t181,t182,t183,t184⟩,hr185,hp186⟩:=bind_some' hp167
    try dsimp only at hp186
    have hS190:=hS180.pick7
    have hS191:=hS190.pick7
    have hS192:=hS191.pick7
    have hS193:=hS192.pick7
    have hS194:=hS193.pick7
    have hS195:=hS194.pick7
    refine rC (weirlaw14_Net__machine_3.ok hr185 hS195 (SlZ.mono (mono_repL (mono_flat _)) ha0_1c1v_0 hz36) (ha0_1c1v_1.up hz36) (ha0_1c1v_2.up hz36)) ?_
    rintro _ w196 ⟨rfl,hS197⟩
    refine ⟨_,rfl,?_⟩
    refine sR 3 (.inRegion (opsOf p22_26) [7,8,9]::td95) ?_
    refine rA 84 (.agg (enc_api_Final (⟨0,(Vector.replicate 48 0)⟩ : api_Final)).toArray) (enc_api_Final (⟨0,(Vector.replicate 48 0)⟩ : api_Final)) hS197 ?_
    intro b198 w199 hS200
    refine r_store (c:=p22_26) (i:=8) (d:=none) (ty:=0) (t:=84) (x:=(.tmp 14)) (y:=(.tmp 51)) (b:=b198) (o:=0) (e:=84) (cs:=enc_api_Final (⟨0,(Vector.replicate 48 0)⟩ : api_Final)) (v:=.agg (enc_api_Final t181).toArray) (vs:=enc_api_Final t181) (cs':=enc_api_Final t181) hS200 (by kernel_rfl) (by kernel_rfl) (by kernel_rfl) (by kernel_rfl) (by kernel_rfl) (lenK (len_api_Final _) (by kernel_rfl)) (one_api_Final _) (by simp only [len_api_Final,List.length_cons,List.length_nil,List.length_append]; omega) (over_all ((len_api_Final _).trans (len_api_Final _).symm)) ?_
    intro w202 hS203
    refine sR 6 (.code (cd22 [1,1,1,1,1,0,1,0,0,1,1,0,0,1,1,1,1,1])::td94) ?_
    cases t182
    ·have hp204:=ite_f hp186 rfl
     refine sI 5 (.inRegion (opsOf (cd22 [1,1,1,1,1,0,1,0,0,1,1,0,0,1,1,1,1,1,1,0])) []::.code (cd22 [1,1,1,1,1,0,1,0,0,1,1,0,0,1,1,1,1,1,1,1])::td94) 63 hp204 (fun hp207 => ?_) fun hp225 => ?_
     ·refine sR 4 (iR p22_31 1 4::td94) ?_
      refine rL1 3 (.tmp 64) 3 (hS203.blk 7 rfl) ?_
      refine sR 2 (.inRegion (opsOf p22_31) [4]::td94) ?_
      have hS208:=hS203.pick7
      refine rS 3 (.tmp 67) (.tmp 66) 3 (.int .i64 (IntKind.i64.wrap (t153.Stuck + 1))) [.int .i64 (IntKind.i64.wrap (t153.Stuck + 1))] (enc_api_Tally (⟨t153.States,(IntKind.i64.wrap (t153.Moves + (((mget t10 (gt t9 t150)).getD []).length : Int))),t153.Ends,(IntKind.i64.wrap (t153.Stuck + 1))⟩ : api_Tally)) hS208 ?_
      intro w209 hS210
      refine sR 6 td91 ?_
      have hS211:=hS210.pick1
      have hS212:=hS211.drop
      have hS213:=hS212.pick12
      have hS214:=hS213.pick12
      have hS215:=hS214.pick12
      have hS216:=hS215.pick12
      have hS217:=hS216.pick12
      have hS218:=hS217.pick11
      have hS219:=hS218.pick11
      have hS220:=hS219.pick11
      have hS221:=hS220.pick11
      have hS222:=hS221.pick11
      have hS223:=hS222.pick11
      have hS224:=hS223.pick12
      refine sR 1 td92 ?_
      exact rF _ (ih160 (id t146) (IntKind.i64.wrap (t150 + 1)) t183 t184 (⟨t153.States,(IntKind.i64.wrap (t153.Moves + (((mget t10 (gt t9 t150)).getD []).length : Int))),t153.Ends,(IntKind.i64.wrap (t153.Stuck + 1))⟩ : api_Tally) _ hp207 he158 _ A147 c148 _ hS224)
     refine sR 8 td91 ?_
     have hS226:=hS203.drop
     have hS227:=hS226.pick6
     have hS228:=hS227.pick12
     have hS229:=hS228.pick12
     have hS230:=hS229.pick12
     have hS231:=hS230.pick12
     have hS232:=hS231.pick12
     have hS233:=hS232.pick11
     have hS234:=hS233.pick11
     have hS235:=hS234.pick11
     have hS236:=hS235.pick11
     have hS237:=hS236.pick11
     have hS238:=hS237.pick11
     have hS239:=hS238.pick12
     refine sR 1 td92 ?_
     exact rF _ (ih160 (id t146) (IntKind.i64.wrap (t150 + 1)) t183 t184 (⟨t153.States,(IntKind.i64.wrap (t153.Moves + (((mget t10 (gt t9 t150)).getD []).length : Int))),t153.Ends,t153.Stuck⟩ : api_Tally) _ hp225 he158 _ A147 c148 _ hS239)
    have hp240:=ite_t hp186 rfl
    refine sR 4 (iR p22_32 1 4::.code p22_33::td94) ?_
    refine rL 84 (.tmp 14) (loads_agg (hS203.blk 0 rfl) (by kernel_rfl) (lenK (len_api_Final _) (by kernel_rfl))) ?_
    refine r_lit (c:=p22_32) (i:=2) (d:=(some 56)) (ty:=39) (t:=39) (e:=84) (sz:=49) (n:=1) (parts:=#[(0,(.tmp 55))]) (vs:=[(0,.agg (enc_api_Final t181).toArray)]) (z:=zeroOf Try.prog 84) (cs':=([t181] : List api_Final).flatMap enc_api_Final) hS203 (by kernel_rfl) (by kernel_rfl) (by kernel_rfl) (by kernel_rfl) (by kernel_rfl) (by decide) (by decide) (by kernel_rfl) rfl (Parts.cons (c:=enc_api_Final t181) (by kernel_rfl) (len_api_Final _) Parts.nil) rfl ?_
    intro b242 w243 hS244
    have hS245:=hS244.pick14
    obtain ⟨g246,hp247⟩:=ite_some hp240
    refine r_append (c:=p22_32) (i:=3) (d:=(some 57)) (ty:=39) (enc:=enc_api_Final) (e:=84) (u:=84) (t:=39) (t2:=39) (sz:=49) (cp:=c148) (A:=A147) (bytes:=392) (xs:=t146) (ys:=([t181] : List api_Final)) (s:=(.tmp 54)) (x:=(.tmp 56)) (xv:=.slice (some ⟨b242,0,none⟩) ([t181] : List api_Final).length 1) (info:=infoOf Try.prog 84) (z:=zeroOf Try.prog 84) (ycs:=([t181] : List api_Final).flatMap enc_api_Final) hS245 (by kernel_rfl) (by kernel_rfl) (by kernel_rfl) (by kernel_rfl) (by kernel_rfl) (.inl (by kernel_rfl)) (by kernel_rfl) (by kernel_rfl) (by kernel_rfl) (by kernel_rfl) (by kernel_rfl) (by omega) len_api_Final one_api_Final (src_row (hS245.row 1 rfl) (by omega) len_api_Final) rfl g246 (by omega) ?_
    intro A248 c249 w250 hS251
    refine sR 4 (iR p22_33 1 4::td94) ?_
    refine rL1 3 (.tmp 58) 2 (hS251.blk 9 rfl) ?_
    refine sR 2 (.inRegion (opsOf p22_33) [4]::td94) ?_
    have hS253:=hS251.pick9
    refine rS 3 (.tmp 61) (.tmp 60) 2 (.int .i64 (IntKind.i64.wrap (t153.Ends + 1))) [.int .i64 (IntKind.i64.wrap (t153.Ends + 1))] (enc_api_Tally (⟨t153.States,(IntKind.i64.wrap (t153.Moves + (((mget t10 (gt t9 t150)).getD []).length : Int))),(IntKind.i64.wrap (t153.Ends + 1)),t153.Stuck⟩ : api_Tally)) hS253 ?_
    intro w254 hS255
    refine sR 6 td91 ?_
    have hS256:=hS255.pick2
    have hS257:=hS256.drop
    have hS258:=hS257.pick2
    have hS259:=hS258.drop
    have hS260:=hS259.pick1
    have hS261:=hS260.pick12
    have hS262:=hS261.pick12
    have hS263:=hS262.pick12
    have hS264:=hS263.pick12
    have hS265:=hS264.pick11
    have hS266:=hS265.pick11
    have hS267:=hS266.pick11
    have hS268:=hS267.pick11
    have hS269:=hS268.pick11
    have hS270:=hS269.pick11
    have hS271:=hS270.pick12
    refine sR 1 td92 ?_
    exact rF _ (ih160 (t146 ++ ([t181] : List api_Final)) (IntKind.i64.wrap (t150 + 1)) t183 t184 (⟨t153.States,(IntKind.i64.wrap (t153.Moves + (((mget t10 (gt t9 t150)).getD []).length : Int))),(IntKind.i64.wrap (t153.Ends + 1)),t153.Stuck⟩ : api_Tally) _ hp247 he158 _ A248 c249 _ hS271)
   refine sR 4 td89 ?_
   have hS273:=hS155.drop
   have hS274:=hS273.pick7
   have hS275:=hS274.drop
   have hS276:=hS275.pick7
   have hS277:=hS276.drop
   have hS278:=hS277.pick7
   have hS279:=hS278.drop
   have hS280:=hS279.pick5
   have hS281:=hS280.pick5
   have hS282:=hS281.pick5
   have hS283:=hS282.pick5
   have hS284:=hS283.pick5
   have hS285:=hS284.pick5
   have hS286:=hS285.pick8
   have hS287:=hS286.pick8
   have hS288:=hS287.pick8
   exact rF _ (J83 t146 t153 t151 t152 ((Option.some.inj hp272).trans he158) _ A147 c148 _ hS288)
  have hS290:=hS70.nilrow none 84 49
  have hS291:=hS290.pick1
  have hS292:=hS291.pick1
  have hS293:=hS292.pick4
  have hS294:=hS293.pick4
  have hS295:=hS294.pick4
  have hS296:=hS295.pick11
  have hS297:=hS296.pick11
  have hS298:=hS297.pick11
  have hS299:=hS298.pick11
  have hS300:=hS299.pick11
  have hS301:=hS300.pick11
  have hS302:=hS301.pick11
  have hS303:=hS302.pick12
  exact rF _ (L162 [] 0 t12 a0_1c0vv_1m (⟨(t9.length : Int),0,0,0⟩ : api_Tally) _ hv72 rfl _ none 0 _ hS303)

noncomputable def cd33 (p : List Nat) : Code := sub (bodyOf Try.f33) p
abbrev p33_9:=cd33 [1,1,1,1]
abbrev p33_13:=cd33 [1,1,1,1,0]
abbrev p33_14:=cd33 [1,1,1,1,1]
abbrev p33_15:=cd33 [1,1,1,1,1,0]
abbrev p33_17:=cd33 [1,1,1,1,1,1,0]
abbrev p33_18:=cd33 [1,1,1,1,1,1,1]
abbrev p33_19:=cd33 [1,1,1,1,1,1,1,0]
abbrev p33_20:=cd33 [1,1,1,1,1,1,1,1]
abbrev p33_21:=cd33 [1,1,1,1,1,1,1,1,0]
abbrev p33_22:=cd33 [1,1,1,1,1,1,1,1,1]
abbrev p33_23:=cd33 [1,1,1,1,1,1,1,1,1,0]
abbrev p33_24:=cd33 [1,1,1,1,1,1,1,1,1,1]
abbrev p33_25:=cd33 [1,1,1,1,1,1,1,1,1,1,0]
abbrev p33_27:=cd33 [1,1,1,1,1,1,1,1,1,1,1,0]
abbrev p33_28:=cd33 [1,1,1,1,1,1,1,1,1,1,1,1]
abbrev p33_29:=cd33 [1,1,1,1,1,1,1,1,1,1,1,1,0]
abbrev p33_32:=cd33 [1,1,1,1,1,1,1,1,1,1,1,1,1,1]
abbrev td96:List Item:=[.code (cd33 [1,1,0,1]),.code (cd33 [1,1,1])]
abbrev td97:List Item:=.code (cd33 [1,1,0,0])::td96
def weirref14_Graph__put.f (y25 : List ByteArray) (y26 : List Int) (y27 : List (List weirref14_Move)) (y28 : List Bool) (y29 : List api_Final) (y30 : List Int) (y31 : List api_Pick) (y32 : Bool) (a0v_8m : List (ByteArray × Int)) (y33 : ByteArray) (a1_1c0vv_0m a1_1c0vv_1m a1_1c0vv_2m : List (ByteArray × Int)) (a1_1c0vv_3 : Bool) (a1_1c1v : weirlaw14_Net) (a2 : Int) (a3 : ByteArray) (a4 a5 : Int) (a6 : api_Pick) : Option (Int × (List ByteArray) × (List Int) × (List (List weirref14_Move)) × (List Bool) × (List api_Final) × (List Int) × (List api_Pick) × Bool × (List (ByteArray × Int)) × Bool × (List (ByteArray × Int))) :=
  (((if (mget a0v_8m a3).isSome = true then some ((((mget a0v_8m a3).getD (0 : Int)),true)) else some ((((mget a0v_8m a3).getD (0 : Int)),false))) : Option (Int × Bool)) >>= (fun (t12,t13) => (if t13 = true then some ((t12,y25,y26,y27,y28,y29,y30,y31,y32,a0v_8m,a1_1c0vv_3,a1_1c0vv_1m)) else (if (decide ((y25.length : Int) ≥ a2)) = true then some (((-1),y25,y26,y27,y28,y29,y30,y31,false,a0v_8m,a1_1c0vv_3,a1_1c0vv_1m)) else (weirlaw14_Net__machine_3.f a3 a1_1c0vv_0m a1_1c0vv_1m a1_1c0vv_2m a1_1c0vv_3 a1_1c1v >>= (fun (t46,t47,t48,t49) => (if (y25.length + ([a3] : List ByteArray).length) * 16 ≤ 140737488355328 then (if (y26.length + ([a4] : List Int).length) * 8 ≤ 140737488355328 then (if (y27.length + 1) * 24 ≤ 140737488355328 then (if (y28.length + ([t47] : List Bool).length) * 1 ≤ 140737488355328 then (if (y29.length + ([t46] : List api_Final).length) * 392 ≤ 140737488355328 then (if (y30.length + ([a5] : List Int).length) * 8 ≤ 140737488355328 then (if (y31.length + ([a6] : List api_Pick).length) * 24 ≤ 140737488355328 then some (((IntKind.i64.wrap (((y25 ++ ([a3] : List ByteArray)).length : Int) - 1)),(y25 ++ ([a3] : List ByteArray)),(y26 ++ ([a4] : List Int)),(y27 ++ [([] : List weirref14_Move)]),(y28 ++ ([t47] : List Bool)),(y29 ++ ([t46] : List api_Final)),(y30 ++ ([a5] : List Int)),(y31 ++ ([a6] : List api_Pick)),y32,(mput a0v_8m a3 (y25.length : Int)),t48,t49)) else none) else none) else none) else none) else none) else none) else none)))))))
theorem weirref14_Graph__put.ok {y25 : List ByteArray} {y26 : List Int} {y27 : List (List weirref14_Move)} {y28 : List Bool} {y29 : List api_Final} {y30 : List Int} {y31 : List api_Pick} {y32 : Bool} {a0v_8m : List (ByteArray × Int)} {y33 : ByteArray} {a1_1c0vv_0m a1_1c0vv_1m a1_1c0vv_2m : List (ByteArray × Int)} {a1_1c0vv_3 : Bool} {a1_1c1v : weirlaw14_Net} {a2 : Int} {a3 : ByteArray} {a4 a5 : Int} {a6 : api_Pick} {ba0 : Nat} {y34 : Option Addr} {y35 : Nat} {y36 : Option Addr} {y37 : Nat} {y38 : Option Addr} {y39 : Nat} {y40 : Nat → Option Addr × Nat} {y41 : Option Addr} {y42 : Nat} {y43 : Option Addr} {y44 : Nat} {y45 : Option Addr} {y46 : Nat} {y47 : Option Addr} {y48 y49 : Nat} {ba1_1c0 ba1_1c0v : Nat} {ba1_1c0vv_0 ba1_1c0vv_1 : Nat} {ba1_1c0vv_2 ba1_1c1 : Nat} {Aa1_1c1v_0 : Option Addr} {ca1_1c1v_0 : Nat} {Aa1_1c1v_1 : Option Addr} {ca1_1c1v_1 : Nat} {Aa1_1c1v_2 : Option Addr} {ca1_1c1v_2 : Nat} {q0 : Int} {q1 : List ByteArray} {q2 : List Int} {q3 : List (List weirref14_Move)} {q4 : List Bool} {q5 : List api_Final} {q6 : List Int} {q7 : List api_Pick} {q8 : Bool} {q9 : List (ByteArray × Int)} {q10 : Bool} {q11 : List (ByteArray × Int)} (hp0 : weirref14_Graph__put.f y25 y26 y27 y28 y29 y30 y31 y32 a0v_8m y33 a1_1c0vv_0m a1_1c0vv_1m a1_1c0vv_2m a1_1c0vv_3 a1_1c1v a2 a3 a4 a5 a6 = some (q0,q1,q2,q3,q4,q5,q6,q7,q8,q9,q10,q11)) (hS0 : St w0 Z (xblk ba0 43 ([.slice y34 y25.length y35,.slice y36 y26.length y37,.slice y38 y27.length y39,.slice y41 y28.length y42,.slice y43 y29.length y44,.slice y45 y30.length y46,.slice y47 y31.length y48,.bool y32,.map (some y49)])::xrow y34 y35 9 1 (y25.flatMap encS)::xrow y36 y37 3 1 (y26.flatMap (encI .i64))::xrr y38 y39 93 y40 95 4 enc_weirref14_Move y27::xrow y41 y42 4 1 (y28.flatMap encB)::xrow y43 y44 84 49 (y29.flatMap enc_api_Final)::xrow y45 y46 3 1 (y30.flatMap (encI .i64))::xrow y47 y48 88 3 (y31.flatMap enc_api_Pick)::xmap y49 (a0v_8m.map (kv Value.string (Value.int .i64)))::xblk ba1_1c0 33 ([.pointer (some ⟨ba1_1c0v,0,none⟩)])::xblk ba1_1c0v 49 ([.map (some ba1_1c0vv_0),.map (some ba1_1c0vv_1),.map (some ba1_1c0vv_2),.bool a1_1c0vv_3])::xmap ba1_1c0vv_0 (a1_1c0vv_0m.map (kv Value.string (Value.int .i64)))::xmap ba1_1c0vv_1 (a1_1c0vv_1m.map (kv Value.string (Value.int .i64)))::xmap ba1_1c0vv_2 (a1_1c0vv_2m.map (kv Value.string (Value.int .i64)))::xblk ba1_1c1 26 ([.slice Aa1_1c1v_0 a1_1c1v.Next.length ca1_1c1v_0,.slice Aa1_1c1v_1 a1_1c1v.End.length ca1_1c1v_1,.slice Aa1_1c1v_2 a1_1c1v.Value.length ca1_1c1v_2,.int .i64 a1_1c1v.Start])::fs) w) (ha1_1c1v_0 : SlZ (repL (flat (encI .i64)) 1) 1 Z Aa1_1c1v_0 ca1_1c1v_0 a1_1c1v.Next) (ha1_1c1v_1 : SlZ (flat encB) 1 Z Aa1_1c1v_1 ca1_1c1v_1 a1_1c1v.End) (ha1_1c1v_2 : SlZ (flat (encI .i64)) 1 Z Aa1_1c1v_2 ca1_1c1v_2 a1_1c1v.Value) :
    Calls Try.prog 33 #[.pointer (some ⟨ba0,0,none⟩),.agg #[.string y33,.func (.func 28) #[] #[.pointer (some ⟨ba1_1c0,0,none⟩),.pointer (some ⟨ba1_1c1,0,none⟩)],.func (.func 31) #[] #[.pointer (some ⟨ba1_1c1,0,none⟩),.pointer (some ⟨ba1_1c0,0,none⟩)],.func (.func 32) #[] #[.pointer (some ⟨ba1_1c0,0,none⟩),.pointer (some ⟨ba1_1c1,0,none⟩)]],.int .i64 a2,.string a3,.int .i64 a4,.int .i64 a5,.agg (enc_api_Pick a6).toArray] w (fun e w' => ∃ (QA0 : Option Addr) (Qc0 : Nat) (QA2 : Option Addr) (Qc2 : Nat) (QA4 : Option Addr) (Qc4 : Nat) (Qh4 : Nat → Option Addr × Nat) (QA7 : Option Addr) (Qc7 : Nat) (QA9 : Option Addr) (Qc9 : Nat) (QA11 : Option Addr) (Qc11 : Nat) (QA13 : Option Addr) (Qc13 : Nat),e = .returned (.int .i64 q0) ∧ St w0 Z (xrow QA0 Qc0 9 1 (q1.flatMap encS)::xrow QA2 Qc2 3 1 (q2.flatMap (encI .i64))::xrr QA4 Qc4 93 Qh4 95 4 enc_weirref14_Move q3::xrow QA7 Qc7 4 1 (q4.flatMap encB)::xrow QA9 Qc9 84 49 (q5.flatMap enc_api_Final)::xrow QA11 Qc11 3 1 (q6.flatMap (encI .i64))::xrow QA13 Qc13 88 3 (q7.flatMap enc_api_Pick)::xblk ba0 43 ([.slice QA0 q1.length Qc0,.slice QA2 q2.length Qc2,.slice QA4 q3.length Qc4,.slice QA7 q4.length Qc7,.slice QA9 q5.length Qc9,.slice QA11 q6.length Qc11,.slice QA13 q7.length Qc13,.bool q8,.map (some y49)])::xmap y49 (q9.map (kv Value.string (Value.int .i64)))::xblk ba1_1c0 33 ([.pointer (some ⟨ba1_1c0v,0,none⟩)])::xblk ba1_1c0v 49 ([.map (some ba1_1c0vv_0),.map (some ba1_1c0vv_1),.map (some ba1_1c0vv_2),.bool q10])::xmap ba1_1c0vv_0 (a1_1c0vv_0m.map (kv Value.string (Value.int .i64)))::xmap ba1_1c0vv_1 (q11.map (kv Value.string (Value.int .i64)))::xmap ba1_1c0vv_2 (a1_1c0vv_2m.map (kv Value.string (Value.int .i64)))::xblk ba1_1c1 26 ([.slice Aa1_1c1v_0 a1_1c1v.Next.length ca1_1c1v_0,.slice Aa1_1c1v_1 a1_1c1v.End.length ca1_1c1v_1,.slice Aa1_1c1v_2 a1_1c1v.Value.length ca1_1c1v_2,.int .i64 a1_1c1v.Start])::fs) w'):=by
  refine calls_abs ?_; intro R hR
  unfold weirref14_Graph__put.f at hp0
  refine calls_of_runs (fn:=Try.f33) (c:=cd33 []) Try.func33 (by kernel_rfl) (al:=[.pointer (some ⟨ba0,0,none⟩),.agg #[.string y33,.func (.func 28) #[] #[.pointer (some ⟨ba1_1c0,0,none⟩),.pointer (some ⟨ba1_1c1,0,none⟩)],.func (.func 31) #[] #[.pointer (some ⟨ba1_1c1,0,none⟩),.pointer (some ⟨ba1_1c0,0,none⟩)],.func (.func 32) #[] #[.pointer (some ⟨ba1_1c0,0,none⟩),.pointer (some ⟨ba1_1c1,0,none⟩)]],.int .i64 a2,.string a3,.int .i64 a4,.int .i64 a5,.agg (enc_api_Pick a6).toArray]) rfl (n:=125) rfl ?_
  refine sR 2 [.inRegion (opsOf (cd33 [0])) [0,1,2],.code (cd33 [1])] ?_
  refine r_box (c:=(cd33 [0])) (i:=0) (d:=(some 8)) (ty:=0) (x:=(.tmp 1)) (v:=.agg #[.string y33,.func (.func 28) #[] #[.pointer (some ⟨ba1_1c0,0,none⟩),.pointer (some ⟨ba1_1c1,0,none⟩)],.func (.func 31) #[] #[.pointer (some ⟨ba1_1c1,0,none⟩),.pointer (some ⟨ba1_1c0,0,none⟩)],.func (.func 32) #[] #[.pointer (some ⟨ba1_1c0,0,none⟩),.pointer (some ⟨ba1_1c1,0,none⟩)]]) (t:=32) (cs:=[.string y33,.func (.func 28) #[] #[.pointer (some ⟨ba1_1c0,0,none⟩),.pointer (some ⟨ba1_1c1,0,none⟩)],.func (.func 31) #[] #[.pointer (some ⟨ba1_1c1,0,none⟩),.pointer (some ⟨ba1_1c0,0,none⟩)],.func (.func 32) #[] #[.pointer (some ⟨ba1_1c0,0,none⟩),.pointer (some ⟨ba1_1c1,0,none⟩)]]) hS0 (by kernel_rfl) (by kernel_rfl) (by kernel_rfl) (by kernel_rfl) ?_
  intro b1 w2 hS3
  refine r_box (c:=(cd33 [0])) (i:=1) (d:=(some 13)) (ty:=0) (x:=(.tmp 6)) (v:=.agg (enc_api_Pick a6).toArray) (t:=88) (cs:=enc_api_Pick a6) hS3 (by kernel_rfl) (by kernel_rfl) (by kernel_rfl) (by kernel_rfl) ?_
  intro b5 w6 hS7
  refine sR 7 [iR (cd33 [1,0]) 3 8,.code (cd33 [1,1])] ?_
  refine rL1 41 (.tmp 22) 8 (hS7.blk 2 rfl) ?_
  refine sR 1 [iR (cd33 [1,0]) 5 6,.code (cd33 [1,1])] ?_
  refine rV (.lookup 41 (.tmp 23) (.tmp 24) true) (.tuple #[.int .i64 ((mget a0v_8m a3).getD (0 : Int)),.bool ((mget a0v_8m a3).isSome)]) (fun o ho _ => x_lookup2 (eK:=Value.string) (eV:=(Value.int .i64)) (dk:=.string) (b:=y49) (t:=41) (kt:=9) (et:=3) (m:=a0v_8m) (kk:=a3) (z:=(0 : Int)) (hS7.at 10 rfl) key_str (by kernel_rfl) (by kernel_rfl) (by kernel_rfl) (by kernel_rfl) (by kernel_rfl) ho) ?_
  obtain ⟨v9,hv10,hp11⟩:=bind_some' hp0
  have J16 : ∀ (t12 : Int) (t13 : Bool) (he18 : (t12,t13) = v9) (l17 : List Value) (w14 : World) (hS15 : St w0 Z (xblk ba0 43 ([.slice y34 y25.length y35,.slice y36 y26.length y37,.slice y38 y27.length y39,.slice y41 y28.length y42,.slice y43 y29.length y44,.slice y45 y30.length y46,.slice y47 y31.length y48,.bool y32,.map (some y49)])::xrow y34 y35 9 1 (y25.flatMap encS)::xrow y36 y37 3 1 (y26.flatMap (encI .i64))::xrr y38 y39 93 y40 95 4 enc_weirref14_Move y27::xrow y41 y42 4 1 (y28.flatMap encB)::xrow y43 y44 84 49 (y29.flatMap enc_api_Final)::xrow y45 y46 3 1 (y30.flatMap (encI .i64))::xrow y47 y48 88 3 (y31.flatMap enc_api_Pick)::xmap y49 (a0v_8m.map (kv Value.string (Value.int .i64)))::xblk b1 32 ([.string y33,.func (.func 28) #[] #[.pointer (some ⟨ba1_1c0,0,none⟩),.pointer (some ⟨ba1_1c1,0,none⟩)],.func (.func 31) #[] #[.pointer (some ⟨ba1_1c1,0,none⟩),.pointer (some ⟨ba1_1c0,0,none⟩)],.func (.func 32) #[] #[.pointer (some ⟨ba1_1c0,0,none⟩),.pointer (some ⟨ba1_1c1,0,none⟩)]])::xblk ba1_1c0 33 ([.pointer (some ⟨ba1_1c0v,0,none⟩)])::xblk ba1_1c0v 49 ([.map (some ba1_1c0vv_0),.map (some ba1_1c0vv_1),.map (some ba1_1c0vv_2),.bool a1_1c0vv_3])::xmap ba1_1c0vv_0 (a1_1c0vv_0m.map (kv Value.string (Value.int .i64)))::xmap ba1_1c0vv_1 (a1_1c0vv_1m.map (kv Value.string (Value.int .i64)))::xmap ba1_1c0vv_2 (a1_1c0vv_2m.map (kv Value.string (Value.int .i64)))::xblk ba1_1c1 26 ([.slice Aa1_1c1v_0 a1_1c1v.Next.length ca1_1c1v_0,.slice Aa1_1c1v_1 a1_1c1v.End.length ca1_1c1v_1,.slice Aa1_1c1v_2 a1_1c1v.Value.length ca1_1c1v_2,.int .i64 a1_1c1v.Start])::xblk b5 88 (enc_api_Pick a6)::fs) w14),Runs Try.prog (fx 33) td97 (fill (mk 132 [(0,.pointer (some ⟨ba0,0,none⟩)),(2,.int .i64 a2),(3,.string a3),(4,.int .i64 a4),(5,.int .i64 a5),(8,.pointer (some ⟨b1,0,none⟩)),(13,.pointer (some ⟨b5,0,none⟩)),(15,.int .i64 t12),(16,.bool t13)]) l17) w14 R:=by
   intro t12 t13 he18 l17 w14 hS15
   subst he18
   try dsimp only at hp11
   refine sR 3 td96 ?_
   cases t13
   ·have hp19:=ite_f hp11 rfl
    refine sR 8 [iR (cd33 [1,1,1,0,0]) 3 4,.code (cd33 [1,1,1,0,1]),.code p33_9] ?_
    refine rL1 36 (.tmp 32) 0 (hS15.blk 0 rfl) ?_
    refine sI 3 [.inRegion (opsOf (cd33 [1,1,1,0,0])) [],.code (cd33 [1,1,1,0,1]),.code p33_9] 36 hp19 (fun hp22 => ?_) fun hp45 => ?_
    ·refine sR 7 [.inRegion (opsOf (cd33 [1,1,1,0,1,0,0])) [3],.code (cd33 [1,1,1,0,1,0,1]),.code p33_9] ?_
     refine rS 4 (.tmp 39) (.const (.bool false)) 7 (.bool false) [.bool false] [.slice y34 y25.length y35,.slice y36 y26.length y37,.slice y38 y27.length y39,.slice y41 y28.length y42,.slice y43 y29.length y44,.slice y45 y30.length y46,.slice y47 y31.length y48,.bool false,.map (some y49)] hS15 ?_
     intro w23 hS24
     refine sR 5 [.code (cd33 [1,1,1,0,1,0,1,1]),.code p33_9] ?_
     have hS25:=hS24.pick9
     have hS26:=hS25.drop
     have hS27:=hS26.pick15
     have hS28:=hS27.drop
     have hS29:=hS28.pick14
     have hS30:=hS29.pick14
     have hS31:=hS30.pick14
     have hS32:=hS31.pick14
     have hS33:=hS32.pick14
     have hS34:=hS33.pick14
     have hS35:=hS34.pick14
     have hS36:=hS35.pick7
     have hS37:=hS36.pick14
     have hS38:=hS37.pick14
     have hS39:=hS38.pick14
     have hS40:=hS39.pick14
     have hS41:=hS40.pick14
     have hS42:=hS41.pick14
     have hS43:=hS42.pick14
     refine rR (.int .i64 (-1)) Try.func33 ?_
     cases Option.some.inj hp22
     exact hR _ _ ⟨y34,y35,y36,y37,y38,y39,(y40),y41,y42,y43,y44,y45,y46,y47,y48,rfl,hS43⟩
    refine sR 6 [iR p33_13 1 9,.code p33_14] ?_
    refine rL1 30 (.tmp 41) 3 (hS15.blk 9 rfl) ?_
    refine sR 1 [iR p33_13 3 7,.code p33_14] ?_
    obtain ⟨⟨t46,t47,t48,t49⟩,hr50,hp51⟩:=bind_some' hp45
    try dsimp only at hp51
    have hS55:=hS15.pick15
    have hS56:=hS55.pick15
    have hS57:=hS56.pick15
    have hS58:=hS57.pick15
    have hS59:=hS58.pick15
    have hS60:=hS59.pick15
    refine rC (weirlaw14_Net__machine_3.ok hr50 hS60 ha1_1c1v_0 ha1_1c1v_1 ha1_1c1v_2) ?_
    rintro _ w61 ⟨rfl,hS62⟩
    refine ⟨_,rfl,?_⟩
    refine sR 3 [.inRegion (opsOf p33_13) [7,8,9],.code p33_14] ?_
    refine rA 84 (.agg (enc_api_Final (⟨0,(Vector.replicate 48 0)⟩ : api_Final)).toArray) (enc_api_Final (⟨0,(Vector.replicate 48 0)⟩ : api_Final)) hS62 ?_
    intro b63 w64 hS65
    refine r_store (c:=p33_13) (i:=8) (d:=none) (ty:=0) (t:=84) (x:=(.tmp 17)) (y:=(.tmp 45)) (b:=b63) (o:=0) (e:=84) (cs:=enc_api_Final (⟨0,(Vector.replicate 48 0)⟩ : api_Final)) (v:=.agg (enc_api_Final t46).toArray) (vs:=enc_api_Final t46) (cs':=enc_api_Final t46) hS65 (by kernel_rfl) (by kernel_rfl) (by kernel_rfl) (by kernel_rfl) (by kernel_rfl) (lenK (len_api_Final _) (by kernel_rfl)) (one_api_Final _) (by simp only [len_api_Final,List.length_cons,List.length_nil,List.length_append]; omega) (over_all ((len_api_Final _).trans (len_api_Final _).symm)) ?_
    intro w67 hS68
    refine sR 3 [.code p33_15,.code (cd33 [1,1,1,1,1,1])] ?_
    refine r_drawn3 (C:=St w0 Z (xblk b63 84 (enc_api_Final t46)::xblk ba1_1c0 33 ([.pointer (some ⟨ba1_1c0v,0,none⟩)])::xblk ba1_1c0v 49 ([.map (some ba1_1c0vv_0),.map (some ba1_1c0vv_1),.map (some ba1_1c0vv_2),.bool t48])::xmap ba1_1c0vv_0 (a1_1c0vv_0m.map (kv Value.string (Value.int .i64)))::xmap ba1_1c0vv_1 (t49.map (kv Value.string (Value.int .i64)))::xmap ba1_1c0vv_2 (a1_1c0vv_2m.map (kv Value.string (Value.int .i64)))::xblk ba1_1c1 26 ([.slice Aa1_1c1v_0 a1_1c1v.Next.length ca1_1c1v_0,.slice Aa1_1c1v_1 a1_1c1v.End.length ca1_1c1v_1,.slice Aa1_1c1v_2 a1_1c1v.Value.length ca1_1c1v_2,.int .i64 a1_1c1v.Start])::xblk ba0 43 ([.slice y34 y25.length y35,.slice y36 y26.length y37,.slice y38 y27.length y39,.slice y41 y28.length y42,.slice y43 y29.length y44,.slice y45 y30.length y46,.slice y47 y31.length y48,.bool y32,.map (some y49)])::xrow y34 y35 9 1 (y25.flatMap encS)::xrow y36 y37 3 1 (y26.flatMap (encI .i64))::xrr y38 y39 93 y40 95 4 enc_weirref14_Move y27::xrow y41 y42 4 1 (y28.flatMap encB)::xrow y43 y44 84 49 (y29.flatMap enc_api_Final)::xrow y45 y46 3 1 (y30.flatMap (encI .i64))::xrow y47 y48 88 3 (y31.flatMap enc_api_Pick)::xmap y49 (a0v_8m.map (kv Value.string (Value.int .i64)))::xblk b1 32 ([.string y33,.func (.func 28) #[] #[.pointer (some ⟨ba1_1c0,0,none⟩),.pointer (some ⟨ba1_1c1,0,none⟩)],.func (.func 31) #[] #[.pointer (some ⟨ba1_1c1,0,none⟩),.pointer (some ⟨ba1_1c0,0,none⟩)],.func (.func 32) #[] #[.pointer (some ⟨ba1_1c0,0,none⟩),.pointer (some ⟨ba1_1c1,0,none⟩)]])::xblk b5 88 (enc_api_Pick a6)::fs)) (c:=p33_15) (id:=8) (by kernel_rfl) (by kernel_rfl) 10 (Nat.le_of_ble_eq_true (by kernel_rfl)) (by kernel_rfl) (by kernel_rfl) (by kernel_rfl) (is:=[0,1,2,3,4,5,6,7,8,9]) (rest:=[10]) (by kernel_rfl) (by kernel_rfl) hS68.drew ?_
    refine qR 3 (rg 3 7) ?_
    refine qL1 41 (.tmp 49) 8 (fun w hC => (hC.blk 7 rfl)) ?_
    refine qR 4 [8,9] ?_
    refine qL1 36 (.tmp 54) 0 (fun w hC => (hC.blk 7 rfl)) ?_
    refine qR 1 [] ?_
    refine Qs.nil ?_
    intro w69 hS70
    have hS71:=hS70.pick15
    refine r_mapUpdate (c:=p33_15) (i:=10) (d:=none) (ty:=0) (eK:=Value.string) (eV:=(Value.int .i64)) (dk:=.string) (b:=y49) (t:=41) (kt:=9) (et:=3) (x:=(.tmp 50)) (y:=(.tmp 51)) (z:=(.tmp 56)) (m:=a0v_8m) (kk:=a3) (v:=(y25.length : Int)) hS71 (by kernel_rfl) (by kernel_rfl) key_str (by kernel_rfl) (by kernel_rfl) (by kernel_rfl) (by kernel_rfl) (by kernel_rfl) ?_
    intro w72 hS73
    refine sR 7 [iR p33_17 4 7,.code p33_18] ?_
    refine rL1 36 (.tmp 60) 0 (hS73.blk 8 rfl) ?_
    refine sR 1 [iR p33_17 6 5,.code p33_18] ?_
    refine r_lit (c:=p33_17) (i:=6) (d:=(some 63)) (ty:=36) (t:=36) (e:=9) (sz:=1) (n:=1) (parts:=#[(0,(.tmp 62))]) (vs:=[(0,.string a3)]) (z:=zeroOf Try.prog 9) (cs':=([a3] : List ByteArray).flatMap encS) hS73 (by kernel_rfl) (by kernel_rfl) (by kernel_rfl) (by kernel_rfl) (by kernel_rfl) (by decide) (by decide) (by kernel_rfl) rfl (Parts.cons (c:=[.string a3]) (by kernel_rfl) rfl Parts.nil) rfl ?_
    intro b75 w76 hS77
    have hS78:=hS77.pick10
    obtain ⟨g79,hp80⟩:=ite_some hp51
    refine r_append (c:=p33_17) (i:=7) (d:=(some 64)) (ty:=36) (enc:=encS) (e:=9) (u:=9) (t:=36) (t2:=36) (sz:=1) (cp:=y35) (A:=y34) (bytes:=16) (xs:=y25) (ys:=([a3] : List ByteArray)) (s:=(.tmp 61)) (x:=(.tmp 63)) (xv:=.slice (some ⟨b75,0,none⟩) ([a3] : List ByteArray).length 1) (info:=infoOf Try.prog 9) (z:=zeroOf Try.prog 9) (ycs:=([a3] : List ByteArray).flatMap encS) hS78 (by kernel_rfl) (by kernel_rfl) (by kernel_rfl) (by kernel_rfl) (by kernel_rfl) (.inl (by kernel_rfl)) (by kernel_rfl) (by kernel_rfl) (by kernel_rfl) (by kernel_rfl) (by kernel_rfl) (by omega) len_encS one_encS (src_row (hS78.row 1 rfl) (by omega) len_encS) rfl g79 (by omega) ?_
    intro A81 c82 w83 hS84
    refine sR 2 [.inRegion (opsOf p33_17) [10],.code p33_18] ?_
    have hS86:=hS84.pick10
    refine rS 36 (.tmp 66) (.tmp 64) 0 (.slice A81 (y25 ++ ([a3] : List ByteArray)).length c82) [.slice A81 (y25 ++ ([a3] : List ByteArray)).length c82] [.slice A81 (y25 ++ ([a3] : List ByteArray)).length c82,.slice y36 y26.length y37,.slice y38 y27.length y39,.slice y41 y28.length y42,.slice y43 y29.length y44,.slice y45 y30.length y46,.slice y47 y31.length y48,.bool y32,.map (some y49)] hS86 ?_
    intro w87 hS88
    refine sR 7 [iR p33_19 4 7,.code p33_20] ?_
    refine rL1 37 (.tmp 70) 1 (hS88.blk 0 rfl) ?_
    refine sR 1 [iR p33_19 6 5,.code p33_20] ?_
    refine r_lit (c:=p33_19) (i:=6) (d:=(some 73)) (ty:=37) (t:=37) (e:=3) (sz:=1) (n:=1) (parts:=#[(0,(.tmp 72))]) (vs:=[(0,.int .i64 a4)]) (z:=zeroOf Try.prog 3) (cs':=([a4] : List Int).flatMap (encI .i64)) hS88 (by kernel_rfl) (by kernel_rfl) (by kernel_rfl) (by kernel_rfl) (by kernel_rfl) (by decide) (by decide) (by kernel_rfl) rfl (Parts.cons (c:=[.int .i64 a4]) (by kernel_rfl) rfl Parts.nil) rfl ?_
    intro b90 w91 hS92
    have hS93:=hS92.pick12
    obtain ⟨g94,hp95⟩:=ite_some hp80
    refine r_append (c:=p33_19) (i:=7) (d:=(some 74)) (ty:=37) (enc:=(encI .i64)) (e:=3) (u:=3) (t:=37) (t2:=37) (sz:=1) (cp:=y37) (A:=y36) (bytes:=8) (xs:=y26) (ys:=([a4] : List Int)) (s:=(.tmp 71)) (x:=(.tmp 73)) (xv:=.slice (some ⟨b90,0,none⟩) ([a4] : List Int).length 1) (info:=infoOf Try.prog 3) (z:=zeroOf Try.prog 3) (ycs:=([a4] : List Int).flatMap (encI .i64)) hS93 (by kernel_rfl) (by kernel_rfl) (by kernel_rfl) (by kernel_rfl) (by kernel_rfl) (.inl (by kernel_rfl)) (by kernel_rfl) (by kernel_rfl) (by kernel_rfl) (by kernel_rfl) (by kernel_rfl) (by omega) (len_encI .i64) (one_encI .i64) (src_row (hS93.row 1 rfl) (by omega) (len_encI .i64)) rfl g94 (by omega) ?_
    intro A96 c97 w98 hS99
    refine sR 2 [.inRegion (opsOf p33_19) [10],.code p33_20] ?_
    have hS101:=hS99.pick2
    refine rS 37 (.tmp 76) (.tmp 74) 1 (.slice A96 (y26 ++ ([a4] : List Int)).length c97) [.slice A96 (y26 ++ ([a4] : List Int)).length c97] [.slice A81 (y25 ++ ([a3] : List ByteArray)).length c82,.slice A96 (y26 ++ ([a4] : List Int)).length c97,.slice y38 y27.length y39,.slice y41 y28.length y42,.slice y43 y29.length y44,.slice y45 y30.length y46,.slice y47 y31.length y48,.bool y32,.map (some y49)] hS101 ?_
    intro w102 hS103
    refine sR 7 [iR p33_21 4 6,.code p33_22] ?_
    refine rL1 38 (.tmp 80) 2 (hS103.blk 0 rfl) ?_
    refine r_lit (c:=p33_21) (i:=5) (d:=(some 82)) (ty:=38) (t:=38) (e:=93) (sz:=1) (n:=1) (parts:=#[(0,(.const (.slice none 0 0)))]) (vs:=[(0,.slice none 0 0)]) (z:=zeroOf Try.prog 93) (cs':=([(none,0,0)] : List Hd3).flatMap encH) hS103 (by kernel_rfl) (by kernel_rfl) (by kernel_rfl) (by kernel_rfl) (by kernel_rfl) (by decide) (by decide) (by kernel_rfl) rfl (Parts.cons (c:=[.slice none 0 0]) (by kernel_rfl) rfl Parts.nil) rfl ?_
    intro b105 w106 hS107
    have hS110:=hS107.nilrow none 95 4
    obtain ⟨g111,hp112⟩:=ite_some hp95
    have hS113:=hS110.pick15
    refine r_appendRR (c:=p33_21) (i:=6) (d:=(some 83)) (ty:=38) (u:=93) (t:=38) (t2:=38) (s:=(.tmp 81)) (x:=(.tmp 82)) (xv:=.slice (some ⟨b105,0,none⟩) 1 1) (info:=infoOf Try.prog 93) (z:=zeroOf Try.prog 93) (bytes:=24) (A:=y38) (cp:=y39) (Al:=none) (cl:=0) (ts:=y27) (tl:=([] : List weirref14_Move)) hS113 (by kernel_rfl) (by kernel_rfl) (by kernel_rfl) (by kernel_rfl) (by kernel_rfl) (.inl (by kernel_rfl)) (by kernel_rfl) (by kernel_rfl) (by kernel_rfl) (by kernel_rfl) (by kernel_rfl) (src_hd (hS113.row 2 rfl)) g111 (by omega) ?_
    intro A114 c115 w116 hS117
    refine sR 2 [.inRegion (opsOf p33_21) [9],.code p33_22] ?_
    have hS119:=hS117.pick2
    refine rS 38 (.tmp 85) (.tmp 83) 2 (.slice A114 (y27 ++ [([] : List weirref14_Move)]).length c115) [.slice A114 (y27 ++ [([] : List weirref14_Move)]).length c115] [.slice A81 (y25 ++ ([a3] : List ByteArray)).length c82,.slice A96 (y26 ++ ([a4] : List Int)).length c97,.slice A114 (y27 ++ [([] : List weirref14_Move)]).length c115,.slice y41 y28.length y42,.slice y43 y29.length y44,.slice y45 y30.length y46,.slice y47 y31.length y48,.bool y32,.map (some y49)] hS119 ?_
    intro w120 hS121
    refine sR 7 [iR p33_23 4 7,.code p33_24] ?_
    refine rL1 23 (.tmp 89) 3 (hS121.blk 0 rfl) ?_
    refine sR 1 [iR p33_23 6 5,.code p33_24] ?_
    refine r_lit (c:=p33_23) (i:=6) (d:=(some 92)) (ty:=23) (t:=23) (e:=4) (sz:=1) (n:=1) (parts:=#[(0,(.tmp 91))]) (vs:=[(0,.bool t47)]) (z:=zeroOf Try.prog 4) (cs':=([t47] : List Bool).flatMap encB) hS121 (by kernel_rfl) (by kernel_rfl) (by kernel_rfl) (by kernel_rfl) (by kernel_rfl) (by decide) (by decide) (by kernel_rfl) rfl (Parts.cons (c:=[.bool t47]) (by kernel_rfl) rfl Parts.nil) rfl ?_
    intro b123 w124 hS125
    have hS126:=hS125.pick16
    obtain ⟨g127,hp128⟩:=ite_some hp112
    refine r_append (c:=p33_23) (i:=7) (d:=(some 93)) (ty:=23) (enc:=encB) (e:=4) (u:=4) (t:=23) (t2:=23) (sz:=1) (cp:=y42) (A:=y41) (bytes:=1) (xs:=y28) (ys:=([t47] : List Bool)) (s:=(.tmp 90)) (x:=(.tmp 92)) (xv:=.slice (some ⟨b123,0,none⟩) ([t47] : List Bool).length 1) (info:=infoOf Try.prog 4) (z:=zeroOf Try.prog 4) (ycs:=([t47] : List Bool).flatMap encB) hS126 (by kernel_rfl) (by kernel_rfl) (by kernel_rfl) (by kernel_rfl) (by kernel_rfl) (.inl (by kernel_rfl)) (by kernel_rfl) (by kernel_rfl) (by kernel_rfl) (by kernel_rfl) (by kernel_rfl) (by omega) len_encB one_encB (src_row (hS126.row 1 rfl) (by omega) len_encB) rfl g127 (by omega) ?_
    intro A129 c130 w131 hS132
    refine sR 2 [.inRegion (opsOf p33_23) [10],.code p33_24] ?_
    have hS134:=hS132.pick2
    refine rS 23 (.tmp 95) (.tmp 93) 3 (.slice A129 (y28 ++ ([t47] : List Bool)).length c130) [.slice A129 (y28 ++ ([t47] : List Bool)).length c130] [.slice A81 (y25 ++ ([a3] : List ByteArray)).length c82,.slice A96 (y26 ++ ([a4] : List Int)).length c97,.slice A114 (y27 ++ [([] : List weirref14_Move)]).length c115,.slice A129 (y28 ++ ([t47] : List Bool)).length c130,.slice y43 y29.length y44,.slice y45 y30.length y46,.slice y47 y31.length y48,.bool y32,.map (some y49)] hS134 ?_
    intro w135 hS136
    refine sR 2 [.code p33_25,.code (cd33 [1,1,1,1,1,1,1,1,1,1,1])] ?_
    have hS137:=hS136.pick17
    have hS138:=hS137.pick11
    have hS139:=hS138.pick2
    generalize hg141 : (xrow A129 c130 4 1 ((y28 ++ ([t47] : List Bool)).flatMap encB)::xrow (some ⟨b123,0,none⟩) 1 4 1 (([t47] : List Bool).flatMap encB)::xrr A114 c115 93 (upd y40 y27.length (none,0)) 95 4 enc_weirref14_Move (y27 ++ [([] : List weirref14_Move)])::xrow (some ⟨b105,0,none⟩) 1 93 1 (([(none,0,0)] : List Hd3).flatMap encH)::xrow A96 c97 3 1 ((y26 ++ ([a4] : List Int)).flatMap (encI .i64))::xrow (some ⟨b90,0,none⟩) 1 3 1 (([a4] : List Int).flatMap (encI .i64))::xrow A81 c82 9 1 ((y25 ++ ([a3] : List ByteArray)).flatMap encS)::xrow (some ⟨b75,0,none⟩) 1 9 1 (([a3] : List ByteArray).flatMap encS)::xmap y49 ((mput a0v_8m a3 (y25.length : Int)).map (kv Value.string (Value.int .i64)))::xblk ba1_1c0 33 ([.pointer (some ⟨ba1_1c0v,0,none⟩)])::xblk ba1_1c0v 49 ([.map (some ba1_1c0vv_0),.map (some ba1_1c0vv_1),.map (some ba1_1c0vv_2),.bool t48])::xmap ba1_1c0vv_0 (a1_1c0vv_0m.map (kv Value.string (Value.int .i64)))::xmap ba1_1c0vv_1 (t49.map (kv Value.string (Value.int .i64)))::xmap ba1_1c0vv_2 (a1_1c0vv_2m.map (kv Value.string (Value.int .i64)))::xblk ba1_1c1 26 ([.slice Aa1_1c1v_0 a1_1c1v.Next.length ca1_1c1v_0,.slice Aa1_1c1v_1 a1_1c1v.End.length ca1_1c1v_1,.slice Aa1_1c1v_2 a1_1c1v.Value.length ca1_1c1v_2,.int .i64 a1_1c1v.Start])::xrow y45 y46 3 1 (y30.flatMap (encI .i64))::xrow y47 y48 88 3 (y31.flatMap enc_api_Pick)::xblk b1 32 ([.string y33,.func (.func 28) #[] #[.pointer (some ⟨ba1_1c0,0,none⟩),.pointer (some ⟨ba1_1c1,0,none⟩)],.func (.func 31) #[] #[.pointer (some ⟨ba1_1c1,0,none⟩),.pointer (some ⟨ba1_1c0,0,none⟩)],.func (.func 32) #[] #[.pointer (some ⟨ba1_1c0,0,none⟩),.pointer (some ⟨ba1_1c1,0,none⟩)]])::xblk b5 88 (enc_api_Pick a6)::fs) = gs140 at hS139
    obtain ⟨g144,hp145⟩:=ite_some hp128
    refine r_drawnG (S:=Option (Nat × Option ((Option Addr × Nat) × Option Unit))) (rank:=(fun st => match st with | none => 0 | some (b142,none) => 1 | some (b142,some (x149,none)) => 2 | some (b142,some (x149,some x150)) => 3)) (C:=(fun st w' => match st with | none => St w0 Z (xblk ba0 43 ([.slice A81 (y25 ++ ([a3] : List ByteArray)).length c82,.slice A96 (y26 ++ ([a4] : List Int)).length c97,.slice A114 (y27 ++ [([] : List weirref14_Move)]).length c115,.slice A129 (y28 ++ ([t47] : List Bool)).length c130,.slice y43 y29.length y44,.slice y45 y30.length y46,.slice y47 y31.length y48,.bool y32,.map (some y49)])::xblk b63 84 (enc_api_Final t46)::xrow y43 y44 84 49 (y29.flatMap enc_api_Final)::gs140) w' | some (b142,none) => St w0 Z (xrow (some ⟨b142,0,none⟩) 1 84 49 (([t46] : List api_Final).flatMap enc_api_Final)::xblk ba0 43 ([.slice A81 (y25 ++ ([a3] : List ByteArray)).length c82,.slice A96 (y26 ++ ([a4] : List Int)).length c97,.slice A114 (y27 ++ [([] : List weirref14_Move)]).length c115,.slice A129 (y28 ++ ([t47] : List Bool)).length c130,.slice y43 y29.length y44,.slice y45 y30.length y46,.slice y47 y31.length y48,.bool y32,.map (some y49)])::xblk b63 84 (enc_api_Final t46)::xrow y43 y44 84 49 (y29.flatMap enc_api_Final)::gs140) w' | some (b142,some (x149,none)) => St w0 Z (xrow x149.1 x149.2 84 49 ((y29 ++ ([t46] : List api_Final)).flatMap enc_api_Final)::xrow (some ⟨b142,0,none⟩) 1 84 49 (([t46] : List api_Final).flatMap enc_api_Final)::xblk ba0 43 ([.slice A81 (y25 ++ ([a3] : List ByteArray)).length c82,.slice A96 (y26 ++ ([a4] : List Int)).length c97,.slice A114 (y27 ++ [([] : List weirref14_Move)]).length c115,.slice A129 (y28 ++ ([t47] : List Bool)).length c130,.slice y43 y29.length y44,.slice y45 y30.length y46,.slice y47 y31.length y48,.bool y32,.map (some y49)])::xblk b63 84 (enc_api_Final t46)::gs140) w' | some (b142,some (x149,some x150)) => St w0 Z (xblk ba0 43 ([.slice A81 (y25 ++ ([a3] : List ByteArray)).length c82,.slice A96 (y26 ++ ([a4] : List Int)).length c97,.slice A114 (y27 ++ [([] : List weirref14_Move)]).length c115,.slice A129 (y28 ++ ([t47] : List Bool)).length c130,.slice x149.1 (y29 ++ ([t46] : List api_Final)).length x149.2,.slice y45 y30.length y46,.slice y47 y31.length y48,.bool y32,.map (some y49)])::xrow x149.1 x149.2 84 49 ((y29 ++ ([t46] : List api_Final)).flatMap enc_api_Final)::xrow (some ⟨b142,0,none⟩) 1 84 49 (([t46] : List api_Final).flatMap enc_api_Final)::xblk b63 84 (enc_api_Final t46)::gs140) w')) (v:=(fun st => match st with | none => [.pointer (some ⟨ba0,0,none⟩),.pointer (some ⟨ba0,0,none⟩),.pointer (some ⟨ba0,0,none⟩),.pointer (some ⟨ba0,4,none⟩),.slice y43 y29.length y44,.agg (enc_api_Final t46).toArray,undef,undef,undef,undef,undef] | some (b142,none) => [.pointer (some ⟨ba0,0,none⟩),.pointer (some ⟨ba0,0,none⟩),.pointer (some ⟨ba0,0,none⟩),.pointer (some ⟨ba0,4,none⟩),.slice y43 y29.length y44,.agg (enc_api_Final t46).toArray,.slice (some ⟨b142,0,none⟩) ([t46] : List api_Final).length 1,undef,undef,undef,undef] | some (b142,some (x149,none)) => [.pointer (some ⟨ba0,0,none⟩),.pointer (some ⟨ba0,0,none⟩),.pointer (some ⟨ba0,0,none⟩),.pointer (some ⟨ba0,4,none⟩),.slice y43 y29.length y44,.agg (enc_api_Final t46).toArray,.slice (some ⟨b142,0,none⟩) ([t46] : List api_Final).length 1,.slice x149.1 (y29 ++ ([t46] : List api_Final)).length x149.2,.pointer (some ⟨ba0,0,none⟩),.pointer (some ⟨ba0,4,none⟩),undef] | some (b142,some (x149,some x150)) => [.pointer (some ⟨ba0,0,none⟩),.pointer (some ⟨ba0,0,none⟩),.pointer (some ⟨ba0,0,none⟩),.pointer (some ⟨ba0,4,none⟩),.slice y43 y29.length y44,.agg (enc_api_Final t46).toArray,.slice (some ⟨b142,0,none⟩) ([t46] : List api_Final).length 1,.slice x149.1 (y29 ++ ([t46] : List api_Final)).length x149.2,.pointer (some ⟨ba0,0,none⟩),.pointer (some ⟨ba0,4,none⟩),undef])) (c:=p33_25) (id:=13) none 10 11 [6,7,10] [0,0,0,0,0,0,0,1,2,2,2] [2,2,2,2,1,0,1,2,3,2,3] [] (by kernel_rfl) (by kernel_rfl) (by kernel_rfl) (by kernel_rfl) (by kernel_rfl) (by kernel_rfl) (by kernel_rfl) (by kernel_rfl) (by kernel_rfl) (by kernel_rfl) rfl hS139.drew ?_ ?_ ?_ ?_
    ·intro st w hC
     rcases st with _ | ⟨b142,_ | ⟨x149,_ | x150⟩⟩
     ·exact nbl rfl
     ·exact nbl rfl
     ·exact nbl rfl
     ·exact nbl rfl
    ·intro i hi he st w hC hr hu
     match i,hi,he with
     | 0,_,_ =>
      rcases st with _ | ⟨b142,_ | ⟨x149,_ | x150⟩⟩
      ·dsimp only at hC
       exact dP (.pointer (some ⟨ba0,0,none⟩)) hC
      ·dsimp only at hC
       exact dP (.pointer (some ⟨ba0,0,none⟩)) hC
      ·dsimp only at hC
       exact dP (.pointer (some ⟨ba0,0,none⟩)) hC
      ·exact absurd hu (nle rfl)
     | 1,_,_ =>
      rcases st with _ | ⟨b142,_ | ⟨x149,_ | x150⟩⟩
      ·dsimp only at hC
       exact dP (.pointer (some ⟨ba0,0,none⟩)) hC
      ·dsimp only at hC
       exact dP (.pointer (some ⟨ba0,0,none⟩)) hC
      ·dsimp only at hC
       exact dP (.pointer (some ⟨ba0,0,none⟩)) hC
      ·exact absurd hu (nle rfl)
     | 2,_,_ =>
      rcases st with _ | ⟨b142,_ | ⟨x149,_ | x150⟩⟩
      ·dsimp only at hC
       exact dP (.pointer (some ⟨ba0,0,none⟩)) hC
      ·dsimp only at hC
       exact dP (.pointer (some ⟨ba0,0,none⟩)) hC
      ·dsimp only at hC
       exact dP (.pointer (some ⟨ba0,0,none⟩)) hC
      ·exact absurd hu (nle rfl)
     | 3,_,_ =>
      rcases st with _ | ⟨b142,_ | ⟨x149,_ | x150⟩⟩
      ·dsimp only at hC
       exact dP (.pointer (some ⟨ba0,4,none⟩)) hC
      ·dsimp only at hC
       exact dP (.pointer (some ⟨ba0,4,none⟩)) hC
      ·dsimp only at hC
       exact dP (.pointer (some ⟨ba0,4,none⟩)) hC
      ·exact absurd hu (nle rfl)
     | 4,_,_ =>
      rcases st with _ | ⟨b142,_ | ⟨x149,_ | x150⟩⟩
      ·dsimp only at hC
       exact does_run (x_load (t:=39) (x:=(.tmp 99)) (p:=⟨ba0,4,none⟩) (v:=.slice y43 y29.length y44) (by kernel_rfl) (loads_at 4 (hC.blk 0 rfl) (by kernel_rfl) (by kernel_rfl)) (by kernel_rfl)) rfl hC
      ·dsimp only at hC
       exact does_run (x_load (t:=39) (x:=(.tmp 99)) (p:=⟨ba0,4,none⟩) (v:=.slice y43 y29.length y44) (by kernel_rfl) (loads_at 4 (hC.blk 1 rfl) (by kernel_rfl) (by kernel_rfl)) (by kernel_rfl)) rfl hC
      ·exact absurd hu (nle rfl)
      ·exact absurd hu (nle rfl)
     | 5,_,_ =>
      rcases st with _ | ⟨b142,_ | ⟨x149,_ | x150⟩⟩
      ·dsimp only at hC
       exact does_run (x_load (t:=84) (x:=(.tmp 17)) (p:=⟨b63,0,none⟩) (v:=.agg (enc_api_Final t46).toArray) (by kernel_rfl) (loads_agg (hC.blk 1 rfl) (by kernel_rfl) (lenK (len_api_Final _) (by kernel_rfl))) (by kernel_rfl)) rfl hC
      ·exact absurd hu (nle rfl)
      ·exact absurd hu (nle rfl)
      ·exact absurd hu (nle rfl)
     | 6,_,he => exact absurd he (by decide)
     | 7,_,he => exact absurd he (by decide)
     | 8,_,_ =>
      rcases st with _ | ⟨b142,_ | ⟨x149,_ | x150⟩⟩
      ·exact absurd hr (nle rfl)
      ·exact absurd hr (nle rfl)
      ·dsimp only at hC
       exact dP (.pointer (some ⟨ba0,0,none⟩)) hC
      ·dsimp only at hC
       exact dP (.pointer (some ⟨ba0,0,none⟩)) hC
     | 9,_,_ =>
      rcases st with _ | ⟨b142,_ | ⟨x149,_ | x150⟩⟩
      ·exact absurd hr (nle rfl)
      ·exact absurd hr (nle rfl)
      ·dsimp only at hC
       exact dP (.pointer (some ⟨ba0,4,none⟩)) hC
      ·exact absurd hu (nle rfl)
     | 10,_,he => exact absurd he (by decide)
     | i + 11,hi,_ => exact absurd hi (by omega)
    ·intro k hk st w hC hr
     match k,hk with
     | 0,_ =>
      rcases st with _ | ⟨b142,_ | ⟨x149,_ | x150⟩⟩
      ·dsimp only at hC
       refine does_lit (t:=39) (e:=84) (sz:=49) (n:=1) (parts:=#[(0,(.tmp 101))]) (vs:=[(0,.agg (enc_api_Final t46).toArray)]) (z:=zeroOf Try.prog 84) (cs':=([t46] : List api_Final).flatMap enc_api_Final) hC (by kernel_rfl) (by kernel_rfl) (by kernel_rfl) (by kernel_rfl) (by decide) (by decide) (by kernel_rfl) rfl (Parts.cons (c:=enc_api_Final t46) (by kernel_rfl) (len_api_Final _) Parts.nil) rfl ?_
       intro b142 w2 h2
       refine ⟨some (b142,none),rfl,?_,.inr rfl,h2⟩
       intro j hj
       match j,hj with
       | 0,_ => exact rfl
       | 1,_ => exact rfl
       | 2,_ => exact rfl
       | 3,_ => exact rfl
       | 4,_ => exact rfl
       | 5,_ => exact rfl
       | 6,hj => exact absurd hj (by decide)
       | 7,hj => exact absurd hj (by decide)
       | 8,hj => exact absurd hj (by decide)
       | 9,hj => exact absurd hj (by decide)
       | 10,hj => exact absurd hj (by decide)
       | j + 11,_ => exact rfl
      ·exact absurd hr (Nat.ne_of_beq_eq_false rfl)
      ·exact absurd hr (Nat.ne_of_beq_eq_false rfl)
      ·exact absurd hr (Nat.ne_of_beq_eq_false rfl)
     | 1,_ =>
      rcases st with _ | ⟨b142,_ | ⟨x149,_ | x150⟩⟩
      ·exact absurd hr (Nat.ne_of_beq_eq_false rfl)
      ·dsimp only at hC
       have hC:=hC.pick3
       refine does_append (enc:=enc_api_Final) (e:=84) (u:=84) (t:=39) (t2:=39) (sz:=49) (cp:=y44) (A:=y43) (bytes:=392) (xs:=y29) (ys:=([t46] : List api_Final)) (s:=(.tmp 100)) (x:=(.tmp 102)) (xv:=.slice (some ⟨b142,0,none⟩) ([t46] : List api_Final).length 1) (info:=infoOf Try.prog 84) (z:=zeroOf Try.prog 84) (ycs:=([t46] : List api_Final).flatMap enc_api_Final) hC (by kernel_rfl) (by kernel_rfl) (by kernel_rfl) (by kernel_rfl) (.inl (by kernel_rfl)) (by kernel_rfl) (by kernel_rfl) (by kernel_rfl) (by kernel_rfl) (by kernel_rfl) (by omega) len_api_Final one_api_Final (src_row (hC.row 1 rfl) (by omega) len_api_Final) rfl g144 (by omega) ?_
       intro A146 c147 w2 h2
       refine ⟨some (b142,some ((A146,c147),none)),rfl,?_,.inr rfl,h2⟩
       intro j hj
       match j,hj with
       | 0,_ => exact rfl
       | 1,_ => exact rfl
       | 2,_ => exact rfl
       | 3,_ => exact rfl
       | 4,_ => exact rfl
       | 5,_ => exact rfl
       | 6,_ => exact rfl
       | 7,hj => exact absurd hj (by decide)
       | 8,hj => exact absurd hj (by decide)
       | 9,hj => exact absurd hj (by decide)
       | 10,hj => exact absurd hj (by decide)
       | j + 11,_ => exact rfl
      ·exact absurd hr (Nat.ne_of_beq_eq_false rfl)
      ·exact absurd hr (Nat.ne_of_beq_eq_false rfl)
     | 2,_ =>
      rcases st with _ | ⟨b142,_ | ⟨x149,_ | x150⟩⟩
      ·exact absurd hr (Nat.ne_of_beq_eq_false rfl)
      ·exact absurd hr (Nat.ne_of_beq_eq_false rfl)
      ·dsimp only at hC
       have hC:=hC.pick2
       refine dS 39 (.tmp 105) (.tmp 103) 4 (.slice x149.1 (y29 ++ ([t46] : List api_Final)).length x149.2) [.slice x149.1 (y29 ++ ([t46] : List api_Final)).length x149.2] [.slice A81 (y25 ++ ([a3] : List ByteArray)).length c82,.slice A96 (y26 ++ ([a4] : List Int)).length c97,.slice A114 (y27 ++ [([] : List weirref14_Move)]).length c115,.slice A129 (y28 ++ ([t47] : List Bool)).length c130,.slice x149.1 (y29 ++ ([t46] : List api_Final)).length x149.2,.slice y45 y30.length y46,.slice y47 y31.length y48,.bool y32,.map (some y49)] hC ?_
       intro w2 h2
       refine ⟨some (b142,some (x149,some ())),rfl,?_,.inl rfl,h2⟩
       intro j hj
       match j,hj with
       | 0,_ => exact rfl
       | 1,_ => exact rfl
       | 2,_ => exact rfl
       | 3,_ => exact rfl
       | 4,_ => exact rfl
       | 5,_ => exact rfl
       | 6,_ => exact rfl
       | 7,_ => exact rfl
       | 8,_ => exact rfl
       | 9,_ => exact rfl
       | 10,hj => exact absurd hj (by decide)
       | j + 11,_ => exact rfl
      ·exact absurd hr (Nat.ne_of_beq_eq_false rfl)
     | k + 3,hk => exact absurd hk (by simp)
    intro st154 w151 hS152 hr153
    rcases st154 with _ | ⟨b142,_ | ⟨x149,_ | x150⟩⟩
    ·exact absurd hr153 (nle rfl)
    ·exact absurd hr153 (nle rfl)
    ·exact absurd hr153 (nle rfl)
    replace hS152 : St w0 Z (xblk ba0 43 ([.slice A81 (y25 ++ ([a3] : List ByteArray)).length c82,.slice A96 (y26 ++ ([a4] : List Int)).length c97,.slice A114 (y27 ++ [([] : List weirref14_Move)]).length c115,.slice A129 (y28 ++ ([t47] : List Bool)).length c130,.slice x149.1 (y29 ++ ([t46] : List api_Final)).length x149.2,.slice y45 y30.length y46,.slice y47 y31.length y48,.bool y32,.map (some y49)])::xrow x149.1 x149.2 84 49 ((y29 ++ ([t46] : List api_Final)).flatMap enc_api_Final)::xrow (some ⟨b142,0,none⟩) 1 84 49 (([t46] : List api_Final).flatMap enc_api_Final)::xblk b63 84 (enc_api_Final t46)::gs140) w151:=hS152
    subst hg141
    refine sR 6 [iR p33_27 4 7,.code p33_28] ?_
    refine rL1 37 (.tmp 109) 5 (hS152.blk 0 rfl) ?_
    refine sR 1 [iR p33_27 6 5,.code p33_28] ?_
    refine r_lit (c:=p33_27) (i:=6) (d:=(some 112)) (ty:=37) (t:=37) (e:=3) (sz:=1) (n:=1) (parts:=#[(0,(.tmp 111))]) (vs:=[(0,.int .i64 a5)]) (z:=zeroOf Try.prog 3) (cs':=([a5] : List Int).flatMap (encI .i64)) hS152 (by kernel_rfl) (by kernel_rfl) (by kernel_rfl) (by kernel_rfl) (by kernel_rfl) (by decide) (by decide) (by kernel_rfl) rfl (Parts.cons (c:=[.int .i64 a5]) (by kernel_rfl) rfl Parts.nil) rfl ?_
    intro b156 w157 hS158
    have hS159:=hS158.pick20
    obtain ⟨g160,hp161⟩:=ite_some hp145
    refine r_append (c:=p33_27) (i:=7) (d:=(some 113)) (ty:=37) (enc:=(encI .i64)) (e:=3) (u:=3) (t:=37) (t2:=37) (sz:=1) (cp:=y46) (A:=y45) (bytes:=8) (xs:=y30) (ys:=([a5] : List Int)) (s:=(.tmp 110)) (x:=(.tmp 112)) (xv:=.slice (some ⟨b156,0,none⟩) ([a5] : List Int).length 1) (info:=infoOf Try.prog 3) (z:=zeroOf Try.prog 3) (ycs:=([a5] : List Int).flatMap (encI .i64)) hS159 (by kernel_rfl) (by kernel_rfl) (by kernel_rfl) (by kernel_rfl) (by kernel_rfl) (.inl (by kernel_rfl)) (by kernel_rfl) (by kernel_rfl) (by kernel_rfl) (by kernel_rfl) (by kernel_rfl) (by omega) (len_encI .i64) (one_encI .i64) (src_row (hS159.row 1 rfl) (by omega) (len_encI .i64)) rfl g160 (by omega) ?_
    intro A162 c163 w164 hS165
    refine sR 2 [.inRegion (opsOf p33_27) [10],.code p33_28] ?_
    have hS167:=hS165.pick2
    refine rS 37 (.tmp 115) (.tmp 113) 5 (.slice A162 (y30 ++ ([a5] : List Int)).length c163) [.slice A162 (y30 ++ ([a5] : List Int)).length c163] [.slice A81 (y25 ++ ([a3] : List ByteArray)).length c82,.slice A96 (y26 ++ ([a4] : List Int)).length c97,.slice A114 (y27 ++ [([] : List weirref14_Move)]).length c115,.slice A129 (y28 ++ ([t47] : List Bool)).length c130,.slice x149.1 (y29 ++ ([t46] : List api_Final)).length x149.2,.slice A162 (y30 ++ ([a5] : List Int)).length c163,.slice y47 y31.length y48,.bool y32,.map (some y49)] hS167 ?_
    intro w168 hS169
    refine sR 2 [.code p33_29,.code (cd33 [1,1,1,1,1,1,1,1,1,1,1,1,1])] ?_
    have hS170:=hS169.pick23
    have hS171:=hS170.pick22
    have hS172:=hS171.pick2
    generalize hg174 : (xrow A162 c163 3 1 ((y30 ++ ([a5] : List Int)).flatMap (encI .i64))::xrow (some ⟨b156,0,none⟩) 1 3 1 (([a5] : List Int).flatMap (encI .i64))::xrow x149.1 x149.2 84 49 ((y29 ++ ([t46] : List api_Final)).flatMap enc_api_Final)::xrow (some ⟨b142,0,none⟩) 1 84 49 (([t46] : List api_Final).flatMap enc_api_Final)::xblk b63 84 (enc_api_Final t46)::xrow A129 c130 4 1 ((y28 ++ ([t47] : List Bool)).flatMap encB)::xrow (some ⟨b123,0,none⟩) 1 4 1 (([t47] : List Bool).flatMap encB)::xrr A114 c115 93 (upd y40 y27.length (none,0)) 95 4 enc_weirref14_Move (y27 ++ [([] : List weirref14_Move)])::xrow (some ⟨b105,0,none⟩) 1 93 1 (([(none,0,0)] : List Hd3).flatMap encH)::xrow A96 c97 3 1 ((y26 ++ ([a4] : List Int)).flatMap (encI .i64))::xrow (some ⟨b90,0,none⟩) 1 3 1 (([a4] : List Int).flatMap (encI .i64))::xrow A81 c82 9 1 ((y25 ++ ([a3] : List ByteArray)).flatMap encS)::xrow (some ⟨b75,0,none⟩) 1 9 1 (([a3] : List ByteArray).flatMap encS)::xmap y49 ((mput a0v_8m a3 (y25.length : Int)).map (kv Value.string (Value.int .i64)))::xblk ba1_1c0 33 ([.pointer (some ⟨ba1_1c0v,0,none⟩)])::xblk ba1_1c0v 49 ([.map (some ba1_1c0vv_0),.map (some ba1_1c0vv_1),.map (some ba1_1c0vv_2),.bool t48])::xmap ba1_1c0vv_0 (a1_1c0vv_0m.map (kv Value.string (Value.int .i64)))::xmap ba1_1c0vv_1 (t49.map (kv Value.string (Value.int .i64)))::xmap ba1_1c0vv_2 (a1_1c0vv_2m.map (kv Value.string (Value.int .i64)))::xblk ba1_1c1 26 ([.slice Aa1_1c1v_0 a1_1c1v.Next.length ca1_1c1v_0,.slice Aa1_1c1v_1 a1_1c1v.End.length ca1_1c1v_1,.slice Aa1_1c1v_2 a1_1c1v.Value.length ca1_1c1v_2,.int .i64 a1_1c1v.Start])::xblk b1 32 ([.string y33,.func (.func 28) #[] #[.pointer (some ⟨ba1_1c0,0,none⟩),.pointer (some ⟨ba1_1c1,0,none⟩)],.func (.func 31) #[] #[.pointer (some ⟨ba1_1c1,0,none⟩),.pointer (some ⟨ba1_1c0,0,none⟩)],.func (.func 32) #[] #[.pointer (some ⟨ba1_1c0,0,none⟩),.pointer (some ⟨ba1_1c1,0,none⟩)]])::fs) = gs173 at hS172
    obtain ⟨g177,hp178⟩:=ite_some hp161
    refine r_drawnG (S:=Option (Nat × Option ((Option Addr × Nat) × Option Unit))) (rank:=(fun st => match st with | none => 0 | some (b175,none) => 1 | some (b175,some (x182,none)) => 2 | some (b175,some (x182,some x183)) => 3)) (C:=(fun st w' => match st with | none => St w0 Z (xblk ba0 43 ([.slice A81 (y25 ++ ([a3] : List ByteArray)).length c82,.slice A96 (y26 ++ ([a4] : List Int)).length c97,.slice A114 (y27 ++ [([] : List weirref14_Move)]).length c115,.slice A129 (y28 ++ ([t47] : List Bool)).length c130,.slice x149.1 (y29 ++ ([t46] : List api_Final)).length x149.2,.slice A162 (y30 ++ ([a5] : List Int)).length c163,.slice y47 y31.length y48,.bool y32,.map (some y49)])::xrow y47 y48 88 3 (y31.flatMap enc_api_Pick)::xblk b5 88 (enc_api_Pick a6)::gs173) w' | some (b175,none) => St w0 Z (xrow (some ⟨b175,0,none⟩) 1 88 3 (([a6] : List api_Pick).flatMap enc_api_Pick)::xblk ba0 43 ([.slice A81 (y25 ++ ([a3] : List ByteArray)).length c82,.slice A96 (y26 ++ ([a4] : List Int)).length c97,.slice A114 (y27 ++ [([] : List weirref14_Move)]).length c115,.slice A129 (y28 ++ ([t47] : List Bool)).length c130,.slice x149.1 (y29 ++ ([t46] : List api_Final)).length x149.2,.slice A162 (y30 ++ ([a5] : List Int)).length c163,.slice y47 y31.length y48,.bool y32,.map (some y49)])::xrow y47 y48 88 3 (y31.flatMap enc_api_Pick)::xblk b5 88 (enc_api_Pick a6)::gs173) w' | some (b175,some (x182,none)) => St w0 Z (xrow x182.1 x182.2 88 3 ((y31 ++ ([a6] : List api_Pick)).flatMap enc_api_Pick)::xrow (some ⟨b175,0,none⟩) 1 88 3 (([a6] : List api_Pick).flatMap enc_api_Pick)::xblk ba0 43 ([.slice A81 (y25 ++ ([a3] : List ByteArray)).length c82,.slice A96 (y26 ++ ([a4] : List Int)).length c97,.slice A114 (y27 ++ [([] : List weirref14_Move)]).length c115,.slice A129 (y28 ++ ([t47] : List Bool)).length c130,.slice x149.1 (y29 ++ ([t46] : List api_Final)).length x149.2,.slice A162 (y30 ++ ([a5] : List Int)).length c163,.slice y47 y31.length y48,.bool y32,.map (some y49)])::xblk b5 88 (enc_api_Pick a6)::gs173) w' | some (b175,some (x182,some x183)) => St w0 Z (xblk ba0 43 ([.slice A81 (y25 ++ ([a3] : List ByteArray)).length c82,.slice A96 (y26 ++ ([a4] : List Int)).length c97,.slice A114 (y27 ++ [([] : List weirref14_Move)]).length c115,.slice A129 (y28 ++ ([t47] : List Bool)).length c130,.slice x149.1 (y29 ++ ([t46] : List api_Final)).length x149.2,.slice A162 (y30 ++ ([a5] : List Int)).length c163,.slice x182.1 (y31 ++ ([a6] : List api_Pick)).length x182.2,.bool y32,.map (some y49)])::xrow x182.1 x182.2 88 3 ((y31 ++ ([a6] : List api_Pick)).flatMap enc_api_Pick)::xrow (some ⟨b175,0,none⟩) 1 88 3 (([a6] : List api_Pick).flatMap enc_api_Pick)::xblk b5 88 (enc_api_Pick a6)::gs173) w')) (v:=(fun st => match st with | none => [.pointer (some ⟨ba0,0,none⟩),.pointer (some ⟨ba0,0,none⟩),.pointer (some ⟨ba0,0,none⟩),.pointer (some ⟨ba0,6,none⟩),.slice y47 y31.length y48,.agg (enc_api_Pick a6).toArray,undef,undef,undef,undef,undef] | some (b175,none) => [.pointer (some ⟨ba0,0,none⟩),.pointer (some ⟨ba0,0,none⟩),.pointer (some ⟨ba0,0,none⟩),.pointer (some ⟨ba0,6,none⟩),.slice y47 y31.length y48,.agg (enc_api_Pick a6).toArray,.slice (some ⟨b175,0,none⟩) ([a6] : List api_Pick).length 1,undef,undef,undef,undef] | some (b175,some (x182,none)) => [.pointer (some ⟨ba0,0,none⟩),.pointer (some ⟨ba0,0,none⟩),.pointer (some ⟨ba0,0,none⟩),.pointer (some ⟨ba0,6,none⟩),.slice y47 y31.length y48,.agg (enc_api_Pick a6).toArray,.slice (some ⟨b175,0,none⟩) ([a6] : List api_Pick).length 1,.slice x182.1 (y31 ++ ([a6] : List api_Pick)).length x182.2,.pointer (some ⟨ba0,0,none⟩),.pointer (some ⟨ba0,6,none⟩),undef] | some (b175,some (x182,some x183)) => [.pointer (some ⟨ba0,0,none⟩),.pointer (some ⟨ba0,0,none⟩),.pointer (some ⟨ba0,0,none⟩),.pointer (some ⟨ba0,6,none⟩),.slice y47 y31.length y48,.agg (enc_api_Pick a6).toArray,.slice (some ⟨b175,0,none⟩) ([a6] : List api_Pick).length 1,.slice x182.1 (y31 ++ ([a6] : List api_Pick)).length x182.2,.pointer (some ⟨ba0,0,none⟩),.pointer (some ⟨ba0,6,none⟩),undef])) (c:=p33_29) (id:=15) none 10 11 [6,7,10] [0,0,0,0,0,0,0,1,2,2,2] [2,2,2,2,1,0,1,2,3,2,3] [] (by kernel_rfl) (by kernel_rfl) (by kernel_rfl) (by kernel_rfl) (by kernel_rfl) (by kernel_rfl) (by kernel_rfl) (by kernel_rfl) (by kernel_rfl) (by kernel_rfl) rfl hS172.drew ?_ ?_ ?_ ?_
    ·intro st w hC
     rcases st with _ | ⟨b175,_ | ⟨x182,_ | x183⟩⟩
     ·exact nbl rfl
     ·exact nbl rfl
     ·exact nbl rfl
     ·exact nbl rfl
    ·intro i hi he st w hC hr hu
     match i,hi,he with
     | 0,_,_ =>
      rcases st with _ | ⟨b175,_ | ⟨x182,_ | x183⟩⟩
      ·dsimp only at hC
       exact dP (.pointer (some ⟨ba0,0,none⟩)) hC
      ·dsimp only at hC
       exact dP (.pointer (some ⟨ba0,0,none⟩)) hC
      ·dsimp only at hC
       exact dP (.pointer (some ⟨ba0,0,none⟩)) hC
      ·exact absurd hu (nle rfl)
     | 1,_,_ =>
      rcases st with _ | ⟨b175,_ | ⟨x182,_ | x183⟩⟩
      ·dsimp only at hC
       exact dP (.pointer (some ⟨ba0,0,none⟩)) hC
      ·dsimp only at hC
       exact dP (.pointer (some ⟨ba0,0,none⟩)) hC
      ·dsimp only at hC
       exact dP (.pointer (some ⟨ba0,0,none⟩)) hC
      ·exact absurd hu (nle rfl)
     | 2,_,_ =>
      rcases st with _ | ⟨b175,_ | ⟨x182,_ | x183⟩⟩
      ·dsimp only at hC
       exact dP (.pointer (some ⟨ba0,0,none⟩)) hC
      ·dsimp only at hC
       exact dP (.pointer (some ⟨ba0,0,none⟩)) hC
      ·dsimp only at hC
       exact dP (.pointer (some ⟨ba0,0,none⟩)) hC
      ·exact absurd hu (nle rfl)
     | 3,_,_ =>
      rcases st with _ | ⟨b175,_ | ⟨x182,_ | x183⟩⟩
      ·dsimp only at hC
       exact dP (.pointer (some ⟨ba0,6,none⟩)) hC
      ·dsimp only at hC
       exact dP (.pointer (some ⟨ba0,6,none⟩)) hC
      ·dsimp only at hC
       exact dP (.pointer (some ⟨ba0,6,none⟩)) hC
      ·exact absurd hu (nle rfl)
     | 4,_,_ =>
      rcases st with _ | ⟨b175,_ | ⟨x182,_ | x183⟩⟩
      ·dsimp only at hC
       exact does_run (x_load (t:=40) (x:=(.tmp 119)) (p:=⟨ba0,6,none⟩) (v:=.slice y47 y31.length y48) (by kernel_rfl) (loads_at 6 (hC.blk 0 rfl) (by kernel_rfl) (by kernel_rfl)) (by kernel_rfl)) rfl hC
      ·dsimp only at hC
       exact does_run (x_load (t:=40) (x:=(.tmp 119)) (p:=⟨ba0,6,none⟩) (v:=.slice y47 y31.length y48) (by kernel_rfl) (loads_at 6 (hC.blk 1 rfl) (by kernel_rfl) (by kernel_rfl)) (by kernel_rfl)) rfl hC
      ·exact absurd hu (nle rfl)
      ·exact absurd hu (nle rfl)
     | 5,_,_ =>
      rcases st with _ | ⟨b175,_ | ⟨x182,_ | x183⟩⟩
      ·dsimp only at hC
       exact does_run (x_load (t:=88) (x:=(.tmp 13)) (p:=⟨b5,0,none⟩) (v:=.agg (enc_api_Pick a6).toArray) (by kernel_rfl) (loads_agg (hC.blk 2 rfl) (by kernel_rfl) (by kernel_rfl)) (by kernel_rfl)) rfl hC
      ·exact absurd hu (nle rfl)
      ·exact absurd hu (nle rfl)
      ·exact absurd hu (nle rfl)
     | 6,_,he => exact absurd he (by decide)
     | 7,_,he => exact absurd he (by decide)
     | 8,_,_ =>
      rcases st with _ | ⟨b175,_ | ⟨x182,_ | x183⟩⟩
      ·exact absurd hr (nle rfl)
      ·exact absurd hr (nle rfl)
      ·dsimp only at hC
       exact dP (.pointer (some ⟨ba0,0,none⟩)) hC
      ·dsimp only at hC
       exact dP (.pointer (some ⟨ba0,0,none⟩)) hC
     | 9,_,_ =>
      rcases st with _ | ⟨b175,_ | ⟨x182,_ | x183⟩⟩
      ·exact absurd hr (nle rfl)
      ·exact absurd hr (nle rfl)
      ·dsimp only at hC
       exact dP (.pointer (some ⟨ba0,6,none⟩)) hC
      ·exact absurd hu (nle rfl)
     | 10,_,he => exact absurd he (by decide)
     | i + 11,hi,_ => exact absurd hi (by omega)
    ·intro k hk st w hC hr
     match k,hk with
     | 0,_ =>
      rcases st with _ | ⟨b175,_ | ⟨x182,_ | x183⟩⟩
      ·dsimp only at hC
       refine does_lit (t:=40) (e:=88) (sz:=3) (n:=1) (parts:=#[(0,(.tmp 121))]) (vs:=[(0,.agg (enc_api_Pick a6).toArray)]) (z:=zeroOf Try.prog 88) (cs':=([a6] : List api_Pick).flatMap enc_api_Pick) hC (by kernel_rfl) (by kernel_rfl) (by kernel_rfl) (by kernel_rfl) (by decide) (by decide) (by kernel_rfl) rfl (Parts.cons (c:=enc_api_Pick a6) (by kernel_rfl) (len_api_Pick _) Parts.nil) rfl ?_
       intro b175 w2 h2
       refine ⟨some (b175,none),rfl,?_,.inr rfl,h2⟩
       intro j hj
       match j,hj with
       | 0,_ => exact rfl
       | 1,_ => exact rfl
       | 2,_ => exact rfl
       | 3,_ => exact rfl
       | 4,_ => exact rfl
       | 5,_ => exact rfl
       | 6,hj => exact absurd hj (by decide)
       | 7,hj => exact absurd hj (by decide)
       | 8,hj => exact absurd hj (by decide)
       | 9,hj => exact absurd hj (by decide)
       | 10,hj => exact absurd hj (by decide)
       | j + 11,_ => exact rfl
      ·exact absurd hr (Nat.ne_of_beq_eq_false rfl)
      ·exact absurd hr (Nat.ne_of_beq_eq_false rfl)
      ·exact absurd hr (Nat.ne_of_beq_eq_false rfl)
     | 1,_ =>
      rcases st with _ | ⟨b175,_ | ⟨x182,_ | x183⟩⟩
      ·exact absurd hr (Nat.ne_of_beq_eq_false rfl)
      ·dsimp only at hC
       have hC:=hC.pick2
       refine does_append (enc:=enc_api_Pick) (e:=88) (u:=88) (t:=40) (t2:=40) (sz:=3) (cp:=y48) (A:=y47) (bytes:=24) (xs:=y31) (ys:=([a6] : List api_Pick)) (s:=(.tmp 120)) (x:=(.tmp 122)) (xv:=.slice (some ⟨b175,0,none⟩) ([a6] : List api_Pick).length 1) (info:=infoOf Try.prog 88) (z:=zeroOf Try.prog 88) (ycs:=([a6] : List api_Pick).flatMap enc_api_Pick) hC (by kernel_rfl) (by kernel_rfl) (by kernel_rfl) (by kernel_rfl) (.inl (by kernel_rfl)) (by kernel_rfl) (by kernel_rfl) (by kernel_rfl) (by kernel_rfl) (by kernel_rfl) (by omega) len_api_Pick one_api_Pick (src_row (hC.row 1 rfl) (by omega) len_api_Pick) rfl g177 (by omega) ?_
       intro A179 c180 w2 h2
       refine ⟨some (b175,some ((A179,c180),none)),rfl,?_,.inr rfl,h2⟩
       intro j hj
       match j,hj with
       | 0,_ => exact rfl
       | 1,_ => exact rfl
       | 2,_ => exact rfl
       | 3,_ => exact rfl
       | 4,_ => exact rfl
       | 5,_ => exact rfl
       | 6,_ => exact rfl
       | 7,hj => exact absurd hj (by decide)
       | 8,hj => exact absurd hj (by decide)
       | 9,hj => exact absurd hj (by decide)
       | 10,hj => exact absurd hj (by decide)
       | j + 11,_ => exact rfl
      ·exact absurd hr (Nat.ne_of_beq_eq_false rfl)
      ·exact absurd hr (Nat.ne_of_beq_eq_false rfl)
     | 2,_ =>
      rcases st with _ | ⟨b175,_ | ⟨x182,_ | x183⟩⟩
      ·exact absurd hr (Nat.ne_of_beq_eq_false rfl)
      ·exact absurd hr (Nat.ne_of_beq_eq_false rfl)
      ·dsimp only at hC
       have hC:=hC.pick2
       refine dS 40 (.tmp 125) (.tmp 123) 6 (.slice x182.1 (y31 ++ ([a6] : List api_Pick)).length x182.2) [.slice x182.1 (y31 ++ ([a6] : List api_Pick)).length x182.2] [.slice A81 (y25 ++ ([a3] : List ByteArray)).length c82,.slice A96 (y26 ++ ([a4] : List Int)).length c97,.slice A114 (y27 ++ [([] : List weirref14_Move)]).length c115,.slice A129 (y28 ++ ([t47] : List Bool)).length c130,.slice x149.1 (y29 ++ ([t46] : List api_Final)).length x149.2,.slice A162 (y30 ++ ([a5] : List Int)).length c163,.slice x182.1 (y31 ++ ([a6] : List api_Pick)).length x182.2,.bool y32,.map (some y49)] hC ?_
       intro w2 h2
       refine ⟨some (b175,some (x182,some ())),rfl,?_,.inl rfl,h2⟩
       intro j hj
       match j,hj with
       | 0,_ => exact rfl
       | 1,_ => exact rfl
       | 2,_ => exact rfl
       | 3,_ => exact rfl
       | 4,_ => exact rfl
       | 5,_ => exact rfl
       | 6,_ => exact rfl
       | 7,_ => exact rfl
       | 8,_ => exact rfl
       | 9,_ => exact rfl
       | 10,hj => exact absurd hj (by decide)
       | j + 11,_ => exact rfl
      ·exact absurd hr (Nat.ne_of_beq_eq_false rfl)
     | k + 3,hk => exact absurd hk (by simp)
    intro st187 w184 hS185 hr186
    rcases st187 with _ | ⟨b175,_ | ⟨x182,_ | x183⟩⟩
    ·exact absurd hr186 (nle rfl)
    ·exact absurd hr186 (nle rfl)
    ·exact absurd hr186 (nle rfl)
    replace hS185 : St w0 Z (xblk ba0 43 ([.slice A81 (y25 ++ ([a3] : List ByteArray)).length c82,.slice A96 (y26 ++ ([a4] : List Int)).length c97,.slice A114 (y27 ++ [([] : List weirref14_Move)]).length c115,.slice A129 (y28 ++ ([t47] : List Bool)).length c130,.slice x149.1 (y29 ++ ([t46] : List api_Final)).length x149.2,.slice A162 (y30 ++ ([a5] : List Int)).length c163,.slice x182.1 (y31 ++ ([a6] : List api_Pick)).length x182.2,.bool y32,.map (some y49)])::xrow x182.1 x182.2 88 3 ((y31 ++ ([a6] : List api_Pick)).flatMap enc_api_Pick)::xrow (some ⟨b175,0,none⟩) 1 88 3 (([a6] : List api_Pick).flatMap enc_api_Pick)::xblk b5 88 (enc_api_Pick a6)::gs173) w184:=hS185
    subst hg174
    refine sR 5 [iR (cd33 [1,1,1,1,1,1,1,1,1,1,1,1,1,0]) 3 4,.code p33_32] ?_
    refine rL1 36 (.tmp 128) 0 (hS185.blk 0 rfl) ?_
    refine sR 4 [.code p33_32] ?_
    refine r_isret (c:=p33_32) (by kernel_rfl) ?_
    have hS188:=hS185.pick2
    have hS189:=hS188.drop
    have hS190:=hS189.pick2
    have hS191:=hS190.drop
    have hS192:=hS191.pick3
    have hS193:=hS192.drop
    have hS194:=hS193.pick4
    have hS195:=hS194.drop
    have hS196:=hS195.pick4
    have hS197:=hS196.drop
    have hS198:=hS197.pick5
    have hS199:=hS198.drop
    have hS200:=hS199.pick6
    have hS201:=hS200.drop
    have hS202:=hS201.pick7
    have hS203:=hS202.drop
    have hS204:=hS203.pick8
    have hS205:=hS204.drop
    have hS206:=hS205.pick15
    have hS207:=hS206.drop
    have hS208:=hS207.pick14
    have hS209:=hS208.pick14
    have hS210:=hS209.pick14
    have hS211:=hS210.pick14
    have hS212:=hS211.pick14
    have hS213:=hS212.pick14
    have hS214:=hS213.pick14
    have hS215:=hS214.pick7
    have hS216:=hS215.pick8
    have hS217:=hS216.pick9
    have hS218:=hS217.pick10
    have hS219:=hS218.pick11
    have hS220:=hS219.pick12
    have hS221:=hS220.pick13
    have hS222:=hS221.pick14
    refine rR (.int .i64 (IntKind.i64.wrap (((y25 ++ ([a3] : List ByteArray)).length : Int) - 1))) Try.func33 ?_
    cases Option.some.inj hp178
    exact hR _ _ ⟨A81,c82,A96,c97,A114,c115,((upd y40 y27.length (none,0))),A129,c130,x149.1,x149.2,A162,c163,x182.1,x182.2,rfl,hS222⟩
   have hp224:=ite_t hp11 rfl
   refine sR 6 [.code (cd33 [1,1,0,1,0,1]),.code (cd33 [1,1,1])] ?_
   have hS225:=hS15.pick9
   have hS226:=hS225.drop
   have hS227:=hS226.pick15
   have hS228:=hS227.drop
   have hS229:=hS228.pick14
   have hS230:=hS229.pick14
   have hS231:=hS230.pick14
   have hS232:=hS231.pick14
   have hS233:=hS232.pick14
   have hS234:=hS233.pick14
   have hS235:=hS234.pick14
   have hS236:=hS235.pick7
   have hS237:=hS236.pick14
   have hS238:=hS237.pick14
   have hS239:=hS238.pick14
   have hS240:=hS239.pick14
   have hS241:=hS240.pick14
   have hS242:=hS241.pick14
   have hS243:=hS242.pick14
   refine rR (.int .i64 t12) Try.func33 ?_
   cases Option.some.inj hp224
   exact hR _ _ ⟨y34,y35,y36,y37,y38,y39,(y40),y41,y42,y43,y44,y45,y46,y47,y48,rfl,hS243⟩
  refine sI 3 [.inRegion (opsOf (cd33 [1,0])) [9,10],.code (cd33 [1,1])] 27 hv10 (fun hp247 => ?_) fun hp264 => ?_
  ·refine sR 5 td97 ?_
   have hS248:=hS7.pick16
   have hS249:=hS248.pick16
   have hS250:=hS249.pick16
   have hS251:=hS250.pick16
   have hS252:=hS251.pick16
   have hS253:=hS252.pick16
   have hS254:=hS253.pick7
   have hS255:=hS254.pick16
   have hS256:=hS255.pick16
   have hS257:=hS256.pick16
   have hS258:=hS257.pick16
   have hS259:=hS258.pick16
   have hS260:=hS259.pick16
   have hS261:=hS260.pick16
   have hS262:=hS261.pick16
   have hS263:=hS262.pick16
   exact rF _ (J16 ((mget a0v_8m a3).getD (0 : Int)) true (Option.some.inj hp247) _ _ hS263)
  refine sR 5 td97 ?_
  have hS265:=hS7.pick16
  have hS266:=hS265.pick16
  have hS267:=hS266.pick16
  have hS268:=hS267.pick16
  have hS269:=hS268.pick16
  have hS270:=hS269.pick16
  have hS271:=hS270.pick7
  have hS272:=hS271.pick16
  have hS273:=hS272.pick16
  have hS274:=hS273.pick16
  have hS275:=hS274.pick16
  have hS276:=hS275.pick16
  have hS277:=hS276.pick16
  have hS278:=hS277.pick16
  have hS279:=hS278.pick16
  have hS280:=hS279.pick16
  exact rF _ (J16 ((mget a0v_8m a3).getD (0 : Int)) false (Option.some.inj hp264) _ _ hS280)

noncomputable def cd10 (p : List Nat) : Code := sub (bodyOf Try.f10) p
abbrev p10_4:=cd10 [1,1,0]
abbrev p10_5:=cd10 [1,1,1]
abbrev p10_10:=cd10 [1,1,1,0,1,0,0,0,0]
abbrev p10_11:=cd10 [1,1,1,0,1,0,0,0,1]
abbrev p10_13:=cd10 [1,1,1,0,1,0,0,1,0,0,0]
abbrev p10_16:=cd10 [1,1,1,0,1,0,0,1,0,0,1,1,0,0]
abbrev p10_20:=cd10 [1,1,1,0,1,0,0,1,0,0,1,1,0,0,1,0,0,0]
abbrev p10_26:=cd10 [1,1,1,0,1,0,0,1,0,0,1,1,0,0,1,0,0,1,1,0]
abbrev p10_30:=cd10 [1,1,1,0,1,0,0,1,0,0,1,1,0,0,1,0,0,1,1,1,1,0]
abbrev td98:List Item:=[.code (cd10 [1,1,1,1])]
abbrev td99:List Item:=.inBlock 0::td98
abbrev td100:List Item:=.inLoop (cd10 [1,1,1,0,1,0,0])::td99
abbrev td101:List Item:=.code (cd10 [1,1,1,0,1,0,0])::td100
abbrev td102:List Item:=.code (cd10 [1,1,1,0,1,0,0,1,1])::td100
abbrev td103:List Item:=.inBlock 1::td102
abbrev td104:List Item:=.inBlock 2::td103
abbrev td105:List Item:=.inLoop p10_16::td104
abbrev td106:List Item:=.code p10_16::td105
abbrev td107:List Item:=.code (cd10 [1,1,1,0,1,0,0,1,0,0,1,1,0,0,1,1])::td105
abbrev td108:List Item:=.inBlock 3::td107
def weirref14_Lay.l1 (y9 : ByteArray) (a0_1c1v : weirlaw14_Net) (a1 t138 : Int) (t194 : List api_Pick) (t196 : List (ByteArray × Int)) (t255 : Int) (t256 : Bool) (t257 t258 t259 : List (ByteArray × Int)) (t260 : List ByteArray) (t264 : List Int) (t268 : List (List weirref14_Move)) (t273 : List Bool) (t277 : List api_Final) (t281 : List Int) (t285 : List api_Pick) (t289 : Bool) : Option (Bool × (List (ByteArray × Int)) × (List (ByteArray × Int)) × (List ByteArray) × (List Int) × (List (List weirref14_Move)) × (List Bool) × (List api_Final) × (List Int) × (List api_Pick) × Bool × (List (ByteArray × Int))) :=
  (if (decide (t255 < (t194.length : Int))) = true then (if 0 ≤ t138 ∧ t138 < (t260.length : Int) then (if 0 ≤ t255 ∧ t255 < (t194.length : Int) then (weirlaw14_Net__machine_2.f (gt t260 t138) (gt t194 t255) a0_1c1v t196 t258 t257 t256 >>= (fun (t326,t327,t328,t329) => (if (!t327) = true then (weirref14_Lay.l1 y9 a0_1c1v a1 t138 t194 t196 (IntKind.i64.wrap (t255 + 1)) t328 t329 (id t258) (id t259) (id t260) (id t264) (id t268) (id t273) (id t277) (id t281) (id t285) (id t289)) else (if 0 ≤ t138 ∧ t138 < (t264.length : Int) then (if 0 ≤ t255 ∧ t255 < (t194.length : Int) then (weirref14_Graph__put.f t260 t264 t268 t273 t277 t281 t285 t289 t259 y9 t196 t258 t329 t328 a0_1c1v a1 t326 (IntKind.i64.wrap ((gt t264 t138) + 1)) t138 (gt t194 t255) >>= (fun (t421,t422,t423,t424,t425,t426,t427,t428,t429,t430,t431,t432) => (if (decide (t421 ≥ 0)) = true then (if 0 ≤ t138 ∧ t138 < (t424.length : Int) then (if 0 ≤ t255 ∧ t255 < (t194.length : Int) then (if ((gt t424 t138).length + ([(⟨t421,(gt t194 t255)⟩ : weirref14_Move)] : List weirref14_Move).length) * 32 ≤ 140737488355328 then (weirref14_Lay.l1 y9 a0_1c1v a1 t138 t194 t196 (IntKind.i64.wrap (t255 + 1)) t431 t329 t432 t430 t422 t423 (setl t424 t138 ((gt t424 t138) ++ ([(⟨t421,(gt t194 t255)⟩ : weirref14_Move)] : List weirref14_Move))) t425 t426 t427 t428 t429) else none) else none) else none) else (weirref14_Lay.l1 y9 a0_1c1v a1 t138 t194 t196 (IntKind.i64.wrap (t255 + 1)) t431 t329 t432 t430 t422 t423 t424 t425 t426 t427 t428 t429)))) else none) else none)))) else none) else none) else some ((t256,t258,t257,t260,t264,t268,t273,t277,t281,t285,t289,t259)))
 partial_fixpoint
def weirref14_Lay.l0 (y9 : ByteArray) (a0_1c1v : weirlaw14_Net) (a1 t138 : Int) (t139 : Bool) (t140 t141 : List (ByteArray × Int)) (t142 t143 : List (ByteArray × Int)) (t144 : List ByteArray) (t148 : List Int) (t152 : List (List weirref14_Move)) (t157 : List Bool) (t161 : List api_Final) (t165 : List Int) (t169 : List api_Pick) (t173 : Bool) : Option ((List ByteArray) × (List Int) × (List (List weirref14_Move)) × (List Bool) × (List api_Final) × (List Int) × (List api_Pick) × Bool × (List (ByteArray × Int)) × Bool × (List (ByteArray × Int)) × (List (ByteArray × Int)) × (List (ByteArray × Int))) :=
  (if (decide (t138 < (t144.length : Int))) = true then (if 0 ≤ t138 ∧ t138 < (t144.length : Int) then (weirlaw14_Net__machine_1.f (gt t144 t138) t140 t141 t142 t139 a0_1c1v >>= (fun (t194,t195,t196) => (weirref14_Lay.l1 y9 a0_1c1v a1 t138 t194 t196 0 t195 t142 t141 t143 t144 t148 t152 t157 t161 t165 t169 t173 >>= (fun (t216,t217,t218,t219,t223,t227,t232,t236,t240,t244,t248,t249) => (weirref14_Lay.l0 y9 a0_1c1v a1 (IntKind.i64.wrap (t138 + 1)) t216 t196 t217 t218 t249 t219 t223 t227 t232 t236 t240 t244 t248))))) else none) else some ((t144,t148,t152,t157,t161,t165,t169,t173,t143,t139,t140,t141,t142)))
 partial_fixpoint
def weirref14_Lay.f (y9 : ByteArray) (a0_1c0vv_0m a0_1c0vv_1m a0_1c0vv_2m : List (ByteArray × Int)) (a0_1c0vv_3 : Bool) (a0_1c1v : weirlaw14_Net) (a1 : Int) : Option ((List ByteArray) × (List Int) × (List (List weirref14_Move)) × (List Bool) × (List api_Final) × (List Int) × (List api_Pick) × Bool × (List (ByteArray × Int)) × Bool × (List (ByteArray × Int)) × (List (ByteArray × Int)) × (List (ByteArray × Int))) :=
  (weirref14_Graph__put.f ([] : List ByteArray) ([] : List Int) ([] : List (List weirref14_Move)) ([] : List Bool) ([] : List api_Final) ([] : List Int) ([] : List api_Pick) true ([] : List (ByteArray × Int)) y9 a0_1c0vv_0m a0_1c0vv_1m a0_1c0vv_2m a0_1c0vv_3 a0_1c1v a1 y9 0 (-1) (⟨0,0,0⟩ : api_Pick) >>= (fun (t34,t35,t36,t37,t38,t39,t40,t41,t42,t43,t44,t45) => (weirref14_Lay.l0 y9 a0_1c1v a1 0 t44 a0_1c0vv_0m t45 a0_1c0vv_2m t43 t35 t36 t37 t38 t39 t40 t41 t42 >>= (fun (t93,t97,t101,t106,t110,t114,t118,t122,t123,t124,t125,t126,t127) => some ((t93,t97,t101,t106,t110,t114,t118,t122,t123,t124,t125,t126,t127))))))
theorem weirref14_Lay.ok {y9 : ByteArray} {a0_1c0vv_0m a0_1c0vv_1m a0_1c0vv_2m : List (ByteArray × Int)} {a0_1c0vv_3 : Bool} {a0_1c1v : weirlaw14_Net} {a1 : Int} {ba0_1c0 ba0_1c0v : Nat} {ba0_1c0vv_0 ba0_1c0vv_1 : Nat} {ba0_1c0vv_2 ba0_1c1 : Nat} {Aa0_1c1v_0 : Option Addr} {ca0_1c1v_0 : Nat} {Aa0_1c1v_1 : Option Addr} {ca0_1c1v_1 : Nat} {Aa0_1c1v_2 : Option Addr} {ca0_1c1v_2 : Nat} {q0 : List ByteArray} {q1 : List Int} {q2 : List (List weirref14_Move)} {q3 : List Bool} {q4 : List api_Final} {q5 : List Int} {q6 : List api_Pick} {q7 : Bool} {q8 : List (ByteArray × Int)} {q9 : Bool} {q10 q11 q12 : List (ByteArray × Int)} (hp0 : weirref14_Lay.f y9 a0_1c0vv_0m a0_1c0vv_1m a0_1c0vv_2m a0_1c0vv_3 a0_1c1v a1 = some (q0,q1,q2,q3,q4,q5,q6,q7,q8,q9,q10,q11,q12)) (hS0 : St w0 Z (xblk ba0_1c0 33 ([.pointer (some ⟨ba0_1c0v,0,none⟩)])::xblk ba0_1c0v 49 ([.map (some ba0_1c0vv_0),.map (some ba0_1c0vv_1),.map (some ba0_1c0vv_2),.bool a0_1c0vv_3])::xmap ba0_1c0vv_0 (a0_1c0vv_0m.map (kv Value.string (Value.int .i64)))::xmap ba0_1c0vv_1 (a0_1c0vv_1m.map (kv Value.string (Value.int .i64)))::xmap ba0_1c0vv_2 (a0_1c0vv_2m.map (kv Value.string (Value.int .i64)))::xblk ba0_1c1 26 ([.slice Aa0_1c1v_0 a0_1c1v.Next.length ca0_1c1v_0,.slice Aa0_1c1v_1 a0_1c1v.End.length ca0_1c1v_1,.slice Aa0_1c1v_2 a0_1c1v.Value.length ca0_1c1v_2,.int .i64 a0_1c1v.Start])::fs) w) (ha0_1c1v_0 : SlZ (repL (flat (encI .i64)) 1) 1 Z Aa0_1c1v_0 ca0_1c1v_0 a0_1c1v.Next) (ha0_1c1v_1 : SlZ (flat encB) 1 Z Aa0_1c1v_1 ca0_1c1v_1 a0_1c1v.End) (ha0_1c1v_2 : SlZ (flat (encI .i64)) 1 Z Aa0_1c1v_2 ca0_1c1v_2 a0_1c1v.Value) :
    Calls Try.prog 10 #[.agg #[.string y9,.func (.func 28) #[] #[.pointer (some ⟨ba0_1c0,0,none⟩),.pointer (some ⟨ba0_1c1,0,none⟩)],.func (.func 31) #[] #[.pointer (some ⟨ba0_1c1,0,none⟩),.pointer (some ⟨ba0_1c0,0,none⟩)],.func (.func 32) #[] #[.pointer (some ⟨ba0_1c0,0,none⟩),.pointer (some ⟨ba0_1c1,0,none⟩)]],.int .i64 a1] w (fun e w' => ∃ (QA0 : Option Addr) (Qc0 : Nat) (QA2 : Option Addr) (Qc2 : Nat) (QA4 : Option Addr) (Qc4 : Nat) (Qh4 : Nat → Option Addr × Nat) (QA7 : Option Addr) (Qc7 : Nat) (QA9 : Option Addr) (Qc9 : Nat) (QA11 : Option Addr) (Qc11 : Nat) (QA13 : Option Addr) (Qc13 : Nat) (Qb15 : Nat),e = .returned (.agg #[.slice QA0 q0.length Qc0,.slice QA2 q1.length Qc2,.slice QA4 q2.length Qc4,.slice QA7 q3.length Qc7,.slice QA9 q4.length Qc9,.slice QA11 q5.length Qc11,.slice QA13 q6.length Qc13,.bool q7,.map (some Qb15)]) ∧ St w0 Z (xrow QA0 Qc0 9 1 (q0.flatMap encS)::xrow QA2 Qc2 3 1 (q1.flatMap (encI .i64))::xrr QA4 Qc4 93 Qh4 95 4 enc_weirref14_Move q2::xrow QA7 Qc7 4 1 (q3.flatMap encB)::xrow QA9 Qc9 84 49 (q4.flatMap enc_api_Final)::xrow QA11 Qc11 3 1 (q5.flatMap (encI .i64))::xrow QA13 Qc13 88 3 (q6.flatMap enc_api_Pick)::xmap Qb15 (q8.map (kv Value.string (Value.int .i64)))::xblk ba0_1c0 33 ([.pointer (some ⟨ba0_1c0v,0,none⟩)])::xblk ba0_1c0v 49 ([.map (some ba0_1c0vv_0),.map (some ba0_1c0vv_1),.map (some ba0_1c0vv_2),.bool q9])::xmap ba0_1c0vv_0 (q10.map (kv Value.string (Value.int .i64)))::xmap ba0_1c0vv_1 (q11.map (kv Value.string (Value.int .i64)))::xmap ba0_1c0vv_2 (q12.map (kv Value.string (Value.int .i64)))::xblk ba0_1c1 26 ([.slice Aa0_1c1v_0 a0_1c1v.Next.length ca0_1c1v_0,.slice Aa0_1c1v_1 a0_1c1v.End.length ca0_1c1v_1,.slice Aa0_1c1v_2 a0_1c1v.Value.length ca0_1c1v_2,.int .i64 a0_1c1v.Start])::fs) w'):=by
  refine calls_abs ?_; intro R hR
  unfold weirref14_Lay.f at hp0
  refine calls_of_runs (fn:=Try.f10) (c:=cd10 []) Try.func10 (by kernel_rfl) (al:=[.agg #[.string y9,.func (.func 28) #[] #[.pointer (some ⟨ba0_1c0,0,none⟩),.pointer (some ⟨ba0_1c1,0,none⟩)],.func (.func 31) #[] #[.pointer (some ⟨ba0_1c1,0,none⟩),.pointer (some ⟨ba0_1c0,0,none⟩)],.func (.func 32) #[] #[.pointer (some ⟨ba0_1c0,0,none⟩),.pointer (some ⟨ba0_1c1,0,none⟩)]],.int .i64 a1]) rfl (n:=91) rfl ?_
  refine sR 2 [.inRegion (opsOf (cd10 [0])) [0,1],.code (cd10 [1])] ?_
  refine r_box (c:=(cd10 [0])) (i:=0) (d:=(some 2)) (ty:=0) (x:=(.tmp 0)) (v:=.agg #[.string y9,.func (.func 28) #[] #[.pointer (some ⟨ba0_1c0,0,none⟩),.pointer (some ⟨ba0_1c1,0,none⟩)],.func (.func 31) #[] #[.pointer (some ⟨ba0_1c1,0,none⟩),.pointer (some ⟨ba0_1c0,0,none⟩)],.func (.func 32) #[] #[.pointer (some ⟨ba0_1c0,0,none⟩),.pointer (some ⟨ba0_1c1,0,none⟩)]]) (t:=32) (cs:=[.string y9,.func (.func 28) #[] #[.pointer (some ⟨ba0_1c0,0,none⟩),.pointer (some ⟨ba0_1c1,0,none⟩)],.func (.func 31) #[] #[.pointer (some ⟨ba0_1c1,0,none⟩),.pointer (some ⟨ba0_1c0,0,none⟩)],.func (.func 32) #[] #[.pointer (some ⟨ba0_1c0,0,none⟩),.pointer (some ⟨ba0_1c1,0,none⟩)]]) hS0 (by kernel_rfl) (by kernel_rfl) (by kernel_rfl) (by kernel_rfl) ?_
  intro b1 w2 hS3
  refine rA 43 (.agg #[.slice none 0 0,.slice none 0 0,.slice none 0 0,.slice none 0 0,.slice none 0 0,.slice none 0 0,.slice none 0 0,.bool false,.map none]) [.slice none 0 0,.slice none 0 0,.slice none 0 0,.slice none 0 0,.slice none 0 0,.slice none 0 0,.slice none 0 0,.bool false,.map none] hS3 ?_
  intro b5 w6 hS7
  refine sR 3 [iR (cd10 [1,0]) 0 4,.code (cd10 [1,1])] ?_
  refine r_makeMap (c:=(cd10 [1,0])) (i:=0) (d:=(some 12)) (ty:=41) (t:=41) hS7 (by kernel_rfl) (by kernel_rfl) ?_
  intro b9 w10 hS11
  have hS13 : St w0 Z (xmap b9 (([] : List (ByteArray × Int)).map (kv Value.string (Value.int .i64)))::xblk b5 43 ([.slice none 0 0,.slice none 0 0,.slice none 0 0,.slice none 0 0,.slice none 0 0,.slice none 0 0,.slice none 0 0,.bool false,.map none])::xblk b1 32 ([.string y9,.func (.func 28) #[] #[.pointer (some ⟨ba0_1c0,0,none⟩),.pointer (some ⟨ba0_1c1,0,none⟩)],.func (.func 31) #[] #[.pointer (some ⟨ba0_1c1,0,none⟩),.pointer (some ⟨ba0_1c0,0,none⟩)],.func (.func 32) #[] #[.pointer (some ⟨ba0_1c0,0,none⟩),.pointer (some ⟨ba0_1c1,0,none⟩)]])::xblk ba0_1c0 33 ([.pointer (some ⟨ba0_1c0v,0,none⟩)])::xblk ba0_1c0v 49 ([.map (some ba0_1c0vv_0),.map (some ba0_1c0vv_1),.map (some ba0_1c0vv_2),.bool a0_1c0vv_3])::xmap ba0_1c0vv_0 (a0_1c0vv_0m.map (kv Value.string (Value.int .i64)))::xmap ba0_1c0vv_1 (a0_1c0vv_1m.map (kv Value.string (Value.int .i64)))::xmap ba0_1c0vv_2 (a0_1c0vv_2m.map (kv Value.string (Value.int .i64)))::xblk ba0_1c1 26 ([.slice Aa0_1c1v_0 a0_1c1v.Next.length ca0_1c1v_0,.slice Aa0_1c1v_1 a0_1c1v.End.length ca0_1c1v_1,.slice Aa0_1c1v_2 a0_1c1v.Value.length ca0_1c1v_2,.int .i64 a0_1c1v.Start])::fs) w10:=hS11
  refine sR 1 [.inRegion (opsOf (cd10 [1,0])) [2,3],.code (cd10 [1,1])] ?_
  refine rA 43 (.agg #[.slice none 0 0,.slice none 0 0,.slice none 0 0,.slice none 0 0,.slice none 0 0,.slice none 0 0,.slice none 0 0,.bool false,.map none]) [.slice none 0 0,.slice none 0 0,.slice none 0 0,.slice none 0 0,.slice none 0 0,.slice none 0 0,.slice none 0 0,.bool false,.map none] hS13 ?_
  intro b14 w15 hS16
  refine rS 43 (.tmp 5) (.tmp 13) 0 (.agg #[.slice none 0 0,.slice none 0 0,.slice none 0 0,.slice none 0 0,.slice none 0 0,.slice none 0 0,.slice none 0 0,.bool true,.map (some b9)]) [.slice none 0 0,.slice none 0 0,.slice none 0 0,.slice none 0 0,.slice none 0 0,.slice none 0 0,.slice none 0 0,.bool true,.map (some b9)] [.slice none 0 0,.slice none 0 0,.slice none 0 0,.slice none 0 0,.slice none 0 0,.slice none 0 0,.slice none 0 0,.bool true,.map (some b9)] hS16 ?_
  intro w18 hS19
  refine sR 3 [iR p10_4 0 6,.code p10_5] ?_
  refine rLa 32 (.tmp 2) (hS19.blk 3 rfl) ?_
  refine sR 2 [.inRegion (opsOf p10_4) [3,4,5],.code p10_5] ?_
  refine rL1 9 (.tmp 16) 0 (hS19.blk 3 rfl) ?_
  refine sR 1 [.inRegion (opsOf p10_4) [5],.code p10_5] ?_
  have hS21:=hS19.nilrow none 9 1
  have hS23:=hS21.nilrow none 3 1
  have hS25:=hS23.rrNone 93 95 4 enc_weirref14_Move
  have hS27:=hS25.nilrow none 4 1
  have hS29:=hS27.nilrow none 84 49
  have hS31:=hS29.nilrow none 3 1
  have hS33:=hS31.nilrow none 88 3
  obtain ⟨⟨t34,t35,t36,t37,t38,t39,t40,t41,t42,t43,t44,t45⟩,hr61,hp62⟩:=bind_some' hp0
  try dsimp only at hp62
  have hS73:=hS33.pick16
  have hS74:=hS73.pick16
  have hS75:=hS74.pick16
  have hS76:=hS75.pick16
  have hS77:=hS76.pick16
  have hS78:=hS77.pick16
  have hS79:=hS78.pick14
  have hS80:=hS79.pick7
  have hS81:=hS80.pick8
  have hS82:=hS81.pick9
  have hS83:=hS82.pick10
  have hS84:=hS83.pick11
  have hS85:=hS84.pick12
  have hS86:=hS85.pick13
  have hS87:=hS86.pick14
  refine rC (weirref14_Graph__put.ok hr61 hS87 ha0_1c1v_0 ha0_1c1v_1 ha0_1c1v_2) ?_
  rintro _ w88 ⟨Q46,Q47,Q48,Q49,Q50,Q51,Q52,Q53,Q54,Q55,Q56,Q57,Q58,Q59,Q60,rfl,hS89⟩
  refine ⟨_,rfl,?_⟩
  refine sR 8 td101 ?_
  obtain ⟨v90,hv91,hp92⟩:=bind_some' hp62
  have J130 : ∀ (t93 : List ByteArray) (t97 : List Int) (t101 : List (List weirref14_Move)) (t106 : List Bool) (t110 : List api_Final) (t114 : List Int) (t118 : List api_Pick) (t122 : Bool) (t123 : List (ByteArray × Int)) (t124 : Bool) (t125 t126 t127 : List (ByteArray × Int)) (he132 : (t93,t97,t101,t106,t110,t114,t118,t122,t123,t124,t125,t126,t127) = v90) (l131 : List Value) (A94 : Option Addr) (c95 : Nat) (A98 : Option Addr) (c99 : Nat) (A102 : Option Addr) (c103 : Nat) (h105 : Nat → Option Addr × Nat) (A107 : Option Addr) (c108 : Nat) (A111 : Option Addr) (c112 : Nat) (A115 : Option Addr) (c116 : Nat) (A119 : Option Addr) (c120 : Nat) (w128 : World) (hS129 : St w0 Z (xblk b5 43 ([.slice none 0 0,.slice none 0 0,.slice none 0 0,.slice none 0 0,.slice none 0 0,.slice none 0 0,.slice none 0 0,.bool false,.map none])::xblk b14 43 ([.slice A94 t93.length c95,.slice A98 t97.length c99,.slice A102 t101.length c103,.slice A107 t106.length c108,.slice A111 t110.length c112,.slice A115 t114.length c116,.slice A119 t118.length c120,.bool t122,.map (some b9)])::xrow A94 c95 9 1 (t93.flatMap encS)::xrow A98 c99 3 1 (t97.flatMap (encI .i64))::xrr A102 c103 93 h105 95 4 enc_weirref14_Move t101::xrow A107 c108 4 1 (t106.flatMap encB)::xrow A111 c112 84 49 (t110.flatMap enc_api_Final)::xrow A115 c116 3 1 (t114.flatMap (encI .i64))::xrow A119 c120 88 3 (t118.flatMap enc_api_Pick)::xmap b9 (t123.map (kv Value.string (Value.int .i64)))::xblk ba0_1c0 33 ([.pointer (some ⟨ba0_1c0v,0,none⟩)])::xblk ba0_1c0v 49 ([.map (some ba0_1c0vv_0),.map (some ba0_1c0vv_1),.map (some ba0_1c0vv_2),.bool t124])::xmap ba0_1c0vv_0 (t125.map (kv Value.string (Value.int .i64)))::xmap ba0_1c0vv_1 (t126.map (kv Value.string (Value.int .i64)))::xmap ba0_1c0vv_2 (t127.map (kv Value.string (Value.int .i64)))::xblk ba0_1c1 26 ([.slice Aa0_1c1v_0 a0_1c1v.Next.length ca0_1c1v_0,.slice Aa0_1c1v_1 a0_1c1v.End.length ca0_1c1v_1,.slice Aa0_1c1v_2 a0_1c1v.Value.length ca0_1c1v_2,.int .i64 a0_1c1v.Start])::fs) w128),Runs Try.prog (fx 10) td98 (fill (mk 93 [(4,.pointer (some ⟨b5,0,none⟩)),(5,.pointer (some ⟨b14,0,none⟩))]) l131) w128 R:=by
   intro t93 t97 t101 t106 t110 t114 t118 t122 t123 t124 t125 t126 t127 he132 l131 A94 c95 A98 c99 A102 c103 h105 A107 c108 A111 c112 A115 c116 A119 c120 w128 hS129
   subst he132
   try dsimp only at hp92
   refine sR 2 [.inRegion (opsOf (cd10 [1,1,1,1,0])) [0,1],.code (cd10 [1,1,1,1,1])] ?_
   refine rLa 43 (.tmp 5) (hS129.blk 1 rfl) ?_
   refine rS 43 (.tmp 4) (.tmp 92) 0 (.agg #[.slice A94 t93.length c95,.slice A98 t97.length c99,.slice A102 t101.length c103,.slice A107 t106.length c108,.slice A111 t110.length c112,.slice A115 t114.length c116,.slice A119 t118.length c120,.bool t122,.map (some b9)]) [.slice A94 t93.length c95,.slice A98 t97.length c99,.slice A102 t101.length c103,.slice A107 t106.length c108,.slice A111 t110.length c112,.slice A115 t114.length c116,.slice A119 t118.length c120,.bool t122,.map (some b9)] [.slice A94 t93.length c95,.slice A98 t97.length c99,.slice A102 t101.length c103,.slice A107 t106.length c108,.slice A111 t110.length c112,.slice A115 t114.length c116,.slice A119 t118.length c120,.bool t122,.map (some b9)] hS129 ?_
   intro w133 hS134
   refine sR 1 [.code (cd10 [1,1,1,1,1])] ?_
   have hS135:=hS134.drop
   have hS136:=hS135.drop
   refine rRc (.agg #[.slice A94 t93.length c95,.slice A98 t97.length c99,.slice A102 t101.length c103,.slice A107 t106.length c108,.slice A111 t110.length c112,.slice A115 t114.length c116,.slice A119 t118.length c120,.bool t122,.map (some b9)]) (.ca 4 43 (hS134.blk 0 rfl) .nil) Try.func10 ?_
   cases Option.some.inj hp92
   exact hR _ _ ⟨A94,c95,A98,c99,A102,c103,(h105),A107,c108,A111,c112,A115,c116,A119,c120,b9,rfl,hS136⟩
  have L182 : ∀ (t138 : Int) (t139 : Bool) (t140 t141 : List (ByteArray × Int)) (t142 t143 : List (ByteArray × Int)) (t144 : List ByteArray) (t148 : List Int) (t152 : List (List weirref14_Move)) (t157 : List Bool) (t161 : List api_Final) (t165 : List Int) (t169 : List api_Pick) (t173 : Bool) (e177 : ((List ByteArray) × (List Int) × (List (List weirref14_Move)) × (List Bool) × (List api_Final) × (List Int) × (List api_Pick) × Bool × (List (ByteArray × Int)) × Bool × (List (ByteArray × Int)) × (List (ByteArray × Int)) × (List (ByteArray × Int)))),weirref14_Lay.l0 y9 a0_1c1v a1 t138 t139 t140 t141 t142 t143 t144 t148 t152 t157 t161 t165 t169 t173 = some e177 → e177 = v90 → ∀ (l176 : List Value) (A145 : Option Addr) (c146 : Nat) (A149 : Option Addr) (c150 : Nat) (A153 : Option Addr) (c154 : Nat) (h156 : Nat → Option Addr × Nat) (A158 : Option Addr) (c159 : Nat) (A162 : Option Addr) (c163 : Nat) (A166 : Option Addr) (c167 : Nat) (A170 : Option Addr) (c171 : Nat) (w174 : World) (hS175 : St w0 Z (xblk b1 32 ([.string y9,.func (.func 28) #[] #[.pointer (some ⟨ba0_1c0,0,none⟩),.pointer (some ⟨ba0_1c1,0,none⟩)],.func (.func 31) #[] #[.pointer (some ⟨ba0_1c1,0,none⟩),.pointer (some ⟨ba0_1c0,0,none⟩)],.func (.func 32) #[] #[.pointer (some ⟨ba0_1c0,0,none⟩),.pointer (some ⟨ba0_1c1,0,none⟩)]])::xblk ba0_1c0 33 ([.pointer (some ⟨ba0_1c0v,0,none⟩)])::xblk ba0_1c0v 49 ([.map (some ba0_1c0vv_0),.map (some ba0_1c0vv_1),.map (some ba0_1c0vv_2),.bool t139])::xmap ba0_1c0vv_0 (t140.map (kv Value.string (Value.int .i64)))::xmap ba0_1c0vv_1 (t141.map (kv Value.string (Value.int .i64)))::xmap ba0_1c0vv_2 (t142.map (kv Value.string (Value.int .i64)))::xblk ba0_1c1 26 ([.slice Aa0_1c1v_0 a0_1c1v.Next.length ca0_1c1v_0,.slice Aa0_1c1v_1 a0_1c1v.End.length ca0_1c1v_1,.slice Aa0_1c1v_2 a0_1c1v.Value.length ca0_1c1v_2,.int .i64 a0_1c1v.Start])::xblk b5 43 ([.slice none 0 0,.slice none 0 0,.slice none 0 0,.slice none 0 0,.slice none 0 0,.slice none 0 0,.slice none 0 0,.bool false,.map none])::xblk b14 43 ([.slice A145 t144.length c146,.slice A149 t148.length c150,.slice A153 t152.length c154,.slice A158 t157.length c159,.slice A162 t161.length c163,.slice A166 t165.length c167,.slice A170 t169.length c171,.bool t173,.map (some b9)])::xrow A145 c146 9 1 (t144.flatMap encS)::xrow A149 c150 3 1 (t148.flatMap (encI .i64))::xrr A153 c154 93 h156 95 4 enc_weirref14_Move t152::xrow A158 c159 4 1 (t157.flatMap encB)::xrow A162 c163 84 49 (t161.flatMap enc_api_Final)::xrow A166 c167 3 1 (t165.flatMap (encI .i64))::xrow A170 c171 88 3 (t169.flatMap enc_api_Pick)::xmap b9 (t143.map (kv Value.string (Value.int .i64)))::fs) w174),Runs Try.prog (fx 10) td101 (fill (mk 93 [(1,.int .i64 a1),(2,.pointer (some ⟨b1,0,none⟩)),(4,.pointer (some ⟨b5,0,none⟩)),(5,.pointer (some ⟨b14,0,none⟩)),(6,.int .i64 t138)]) l176) w174 R:=by
   refine weirref14_Lay.l0.partial_correctness y9 a0_1c1v a1 (fun t138 t139 t140 t141 t142 t143 t144 t148 t152 t157 t161 t165 t169 t173 e177 => e177 = v90 → ∀ (l176 : List Value) (A145 : Option Addr) (c146 : Nat) (A149 : Option Addr) (c150 : Nat) (A153 : Option Addr) (c154 : Nat) (h156 : Nat → Option Addr × Nat) (A158 : Option Addr) (c159 : Nat) (A162 : Option Addr) (c163 : Nat) (A166 : Option Addr) (c167 : Nat) (A170 : Option Addr) (c171 : Nat) (w174 : World) (hS175 : St w0 Z (xblk b1 32 ([.string y9,.func (.func 28) #[] #[.pointer (some ⟨ba0_1c0,0,none⟩),.pointer (some ⟨ba0_1c1,0,none⟩)],.func (.func 31) #[] #[.pointer (some ⟨ba0_1c1,0,none⟩),.pointer (some ⟨ba0_1c0,0,none⟩)],.func (.func 32) #[] #[.pointer (some ⟨ba0_1c0,0,none⟩),.pointer (some ⟨ba0_1c1,0,none⟩)]])::xblk ba0_1c0 33 ([.pointer (some ⟨ba0_1c0v,0,none⟩)])::xblk ba0_1c0v 49 ([.map (some ba0_1c0vv_0),.map (some ba0_1c0vv_1),.map (some ba0_1c0vv_2),.bool t139])::xmap ba0_1c0vv_0 (t140.map (kv Value.string (Value.int .i64)))::xmap ba0_1c0vv_1 (t141.map (kv Value.string (Value.int .i64)))::xmap ba0_1c0vv_2 (t142.map (kv Value.string (Value.int .i64)))::xblk ba0_1c1 26 ([.slice Aa0_1c1v_0 a0_1c1v.Next.length ca0_1c1v_0,.slice Aa0_1c1v_1 a0_1c1v.End.length ca0_1c1v_1,.slice Aa0_1c1v_2 a0_1c1v.Value.length ca0_1c1v_2,.int .i64 a0_1c1v.Start])::xblk b5 43 ([.slice none 0 0,.slice none 0 0,.slice none 0 0,.slice none 0 0,.slice none 0 0,.slice none 0 0,.slice none 0 0,.bool false,.map none])::xblk b14 43 ([.slice A145 t144.length c146,.slice A149 t148.length c150,.slice A153 t152.length c154,.slice A158 t157.length c159,.slice A162 t161.length c163,.slice A166 t165.length c167,.slice A170 t169.length c171,.bool t173,.map (some b9)])::xrow A145 c146 9 1 (t144.flatMap encS)::xrow A149 c150 3 1 (t148.flatMap (encI .i64))::xrr A153 c154 93 h156 95 4 enc_weirref14_Move t152::xrow A158 c159 4 1 (t157.flatMap encB)::xrow A162 c163 84 49 (t161.flatMap enc_api_Final)::xrow A166 c167 3 1 (t165.flatMap (encI .i64))::xrow A170 c171 88 3 (t169.flatMap enc_api_Pick)::xmap b9 (t143.map (kv Value.string (Value.int .i64)))::fs) w174),Runs Try.prog (fx 10) td101 (fill (mk 93 [(1,.int .i64 a1),(2,.pointer (some ⟨b1,0,none⟩)),(4,.pointer (some ⟨b5,0,none⟩)),(5,.pointer (some ⟨b14,0,none⟩)),(6,.int .i64 t138)]) l176) w174 R) ?_
   intro rec181 ih180 t138 t139 t140 t141 t142 t143 t144 t148 t152 t157 t161 t165 t169 t173 e177 hb179 he178 l176 A145 c146 A149 c150 A153 c154 h156 A158 c159 A162 c163 A166 c167 A170 c171 w174 hS175
   refine sR 5 (.inRegion (opsOf p10_10) [2,3,4]::.code p10_11::.code (cd10 [1,1,1,0,1,0,0,1])::td100) ?_
   refine rL1 36 (.tmp 21) 0 (hS175.blk 8 rfl) ?_
   refine sI 2 (.inRegion (opsOf p10_10) []::.code p10_11::.code (cd10 [1,1,1,0,1,0,0,1])::td100) 24 hb179 (fun hp185 => ?_) fun hp580 => ?_
   ·refine sR 6 (.code p10_13::.code (cd10 [1,1,1,0,1,0,0,1,0,0,1])::td103) ?_
    refine r_drawn3 (C:=St w0 Z (xblk b1 32 ([.string y9,.func (.func 28) #[] #[.pointer (some ⟨ba0_1c0,0,none⟩),.pointer (some ⟨ba0_1c1,0,none⟩)],.func (.func 31) #[] #[.pointer (some ⟨ba0_1c1,0,none⟩),.pointer (some ⟨ba0_1c0,0,none⟩)],.func (.func 32) #[] #[.pointer (some ⟨ba0_1c0,0,none⟩),.pointer (some ⟨ba0_1c1,0,none⟩)]])::xblk ba0_1c0 33 ([.pointer (some ⟨ba0_1c0v,0,none⟩)])::xblk ba0_1c0v 49 ([.map (some ba0_1c0vv_0),.map (some ba0_1c0vv_1),.map (some ba0_1c0vv_2),.bool t139])::xmap ba0_1c0vv_0 (t140.map (kv Value.string (Value.int .i64)))::xmap ba0_1c0vv_1 (t141.map (kv Value.string (Value.int .i64)))::xmap ba0_1c0vv_2 (t142.map (kv Value.string (Value.int .i64)))::xblk ba0_1c1 26 ([.slice Aa0_1c1v_0 a0_1c1v.Next.length ca0_1c1v_0,.slice Aa0_1c1v_1 a0_1c1v.End.length ca0_1c1v_1,.slice Aa0_1c1v_2 a0_1c1v.Value.length ca0_1c1v_2,.int .i64 a0_1c1v.Start])::xblk b5 43 ([.slice none 0 0,.slice none 0 0,.slice none 0 0,.slice none 0 0,.slice none 0 0,.slice none 0 0,.slice none 0 0,.bool false,.map none])::xblk b14 43 ([.slice A145 t144.length c146,.slice A149 t148.length c150,.slice A153 t152.length c154,.slice A158 t157.length c159,.slice A162 t161.length c163,.slice A166 t165.length c167,.slice A170 t169.length c171,.bool t173,.map (some b9)])::xrow A145 c146 9 1 (t144.flatMap encS)::xrow A149 c150 3 1 (t148.flatMap (encI .i64))::xrr A153 c154 93 h156 95 4 enc_weirref14_Move t152::xrow A158 c159 4 1 (t157.flatMap encB)::xrow A162 c163 84 49 (t161.flatMap enc_api_Final)::xrow A166 c167 3 1 (t165.flatMap (encI .i64))::xrow A170 c171 88 3 (t169.flatMap enc_api_Pick)::xmap b9 (t143.map (kv Value.string (Value.int .i64)))::fs)) (c:=p10_13) (id:=6) (by kernel_rfl) (by kernel_rfl) 7 (Nat.le_of_ble_eq_true (by kernel_rfl)) (by kernel_rfl) (by kernel_rfl) (by kernel_rfl) (is:=[0,1,2,3,4,5,6]) (rest:=[7,8]) (by kernel_rfl) (by kernel_rfl) hS175.drew ?_
    refine qR 1 (rg 1 6) ?_
    refine qL1 28 (.tmp 27) 1 (fun w hC => (hC.blk 0 rfl)) ?_
    refine qR 1 (rg 3 4) ?_
    refine qL1 36 (.tmp 29) 0 (fun w hC => (hC.blk 8 rfl)) ?_
    refine qR 1 [5,6] ?_
    obtain ⟨g186,hp187⟩:=ite_some hp185
    obtain ⟨b188,p189,hA190,-⟩:=(hS175.row 9 rfl).at_ len_encS (by omega) g186.1 g186.2
    refine q_indexAddr (c:=(hd p10_13 7)) (i:=5) (d:=(some 32)) (ty:=0) (t:=36) (e:=9) (n:=t144.length) (cp:=c146) (sz:=1) (kk:=.i64) (x:=(.tmp 30)) (y:=(.tmp 31)) (b:=b188) (o':=p189) (j:=t138) (by kernel_rfl) (by kernel_rfl) (slv (by kernel_rfl) hA190) (by kernel_rfl) (by kernel_rfl) (by kernel_rfl) g186.1 g186.2 ?_
    refine qL1 9 (.tmp 32) 0 (fun w hC => ((hC.row 9 rfl).at2 hA190 len_encS (by omega) g186.1 g186.2)) ?_
    refine Qs.nil ?_
    intro w192 hS193
    obtain ⟨⟨t194,t195,t196⟩,hr199,hp200⟩:=bind_some' hp187
    try dsimp only at hp200
    have hS205:=hS193.pick6
    have hS206:=hS205.pick6
    have hS207:=hS206.pick6
    have hS208:=hS207.pick6
    have hS209:=hS208.pick6
    have hS210:=hS209.pick6
    refine rC (weirlaw14_Net__machine_1.ok hr199 hS210 ha0_1c1v_0 ha0_1c1v_1 ha0_1c1v_2) ?_
    rintro _ w211 ⟨Q197,Q198,rfl,hS212⟩
    refine ⟨_,rfl,?_⟩
    refine sR 8 td106 ?_
    obtain ⟨v213,hv214,hp215⟩:=bind_some' hp200
    have J252 : ∀ (t216 : Bool) (t217 t218 : List (ByteArray × Int)) (t219 : List ByteArray) (t223 : List Int) (t227 : List (List weirref14_Move)) (t232 : List Bool) (t236 : List api_Final) (t240 : List Int) (t244 : List api_Pick) (t248 : Bool) (t249 : List (ByteArray × Int)) (he254 : (t216,t217,t218,t219,t223,t227,t232,t236,t240,t244,t248,t249) = v213) (l253 : List Value) (A220 : Option Addr) (c221 : Nat) (A224 : Option Addr) (c225 : Nat) (A228 : Option Addr) (c229 : Nat) (h231 : Nat → Option Addr × Nat) (A233 : Option Addr) (c234 : Nat) (A237 : Option Addr) (c238 : Nat) (A241 : Option Addr) (c242 : Nat) (A245 : Option Addr) (c246 : Nat) (w250 : World) (hS251 : St w0 Z (xblk b1 32 ([.string y9,.func (.func 28) #[] #[.pointer (some ⟨ba0_1c0,0,none⟩),.pointer (some ⟨ba0_1c1,0,none⟩)],.func (.func 31) #[] #[.pointer (some ⟨ba0_1c1,0,none⟩),.pointer (some ⟨ba0_1c0,0,none⟩)],.func (.func 32) #[] #[.pointer (some ⟨ba0_1c0,0,none⟩),.pointer (some ⟨ba0_1c1,0,none⟩)]])::xblk ba0_1c0 33 ([.pointer (some ⟨ba0_1c0v,0,none⟩)])::xblk ba0_1c0v 49 ([.map (some ba0_1c0vv_0),.map (some ba0_1c0vv_1),.map (some ba0_1c0vv_2),.bool t216])::xmap ba0_1c0vv_0 (t196.map (kv Value.string (Value.int .i64)))::xmap ba0_1c0vv_1 (t217.map (kv Value.string (Value.int .i64)))::xmap ba0_1c0vv_2 (t218.map (kv Value.string (Value.int .i64)))::xblk ba0_1c1 26 ([.slice Aa0_1c1v_0 a0_1c1v.Next.length ca0_1c1v_0,.slice Aa0_1c1v_1 a0_1c1v.End.length ca0_1c1v_1,.slice Aa0_1c1v_2 a0_1c1v.Value.length ca0_1c1v_2,.int .i64 a0_1c1v.Start])::xblk b5 43 ([.slice none 0 0,.slice none 0 0,.slice none 0 0,.slice none 0 0,.slice none 0 0,.slice none 0 0,.slice none 0 0,.bool false,.map none])::xblk b14 43 ([.slice A220 t219.length c221,.slice A224 t223.length c225,.slice A228 t227.length c229,.slice A233 t232.length c234,.slice A237 t236.length c238,.slice A241 t240.length c242,.slice A245 t244.length c246,.bool t248,.map (some b9)])::xrow A220 c221 9 1 (t219.flatMap encS)::xrow A224 c225 3 1 (t223.flatMap (encI .i64))::xrr A228 c229 93 h231 95 4 enc_weirref14_Move t227::xrow A233 c234 4 1 (t232.flatMap encB)::xrow A237 c238 84 49 (t236.flatMap enc_api_Final)::xrow A241 c242 3 1 (t240.flatMap (encI .i64))::xrow A245 c246 88 3 (t244.flatMap enc_api_Pick)::xmap b9 (t249.map (kv Value.string (Value.int .i64)))::fs) w250),Runs Try.prog (fx 10) td103 (fill (mk 93 [(1,.int .i64 a1),(2,.pointer (some ⟨b1,0,none⟩)),(4,.pointer (some ⟨b5,0,none⟩)),(5,.pointer (some ⟨b14,0,none⟩)),(6,.int .i64 t138)]) l253) w250 R:=by
     intro t216 t217 t218 t219 t223 t227 t232 t236 t240 t244 t248 t249 he254 l253 A220 c221 A224 c225 A228 c229 h231 A233 c234 A237 c238 A241 c242 A245 c246 w250 hS251
     subst he254
     try dsimp only at hp215
     refine sR 6 td100 ?_
     refine sR 1 td101 ?_
     exact rF _ (ih180 (IntKind.i64.wrap (t138 + 1)) t216 t196 t217 t218 t249 t219 t223 t227 t232 t236 t240 t244 t248 _ hp215 he178 _ A220 c221 A224 c225 A228 c229 (h231) A233 c234 A237 c238 A241 c242 A245 c246 _ hS251)
    have L298 : ∀ (t255 : Int) (t256 : Bool) (t257 t258 t259 : List (ByteArray × Int)) (t260 : List ByteArray) (t264 : List Int) (t268 : List (List weirref14_Move)) (t273 : List Bool) (t277 : List api_Final) (t281 : List Int) (t285 : List api_Pick) (t289 : Bool) (e293 : (Bool × (List (ByteArray × Int)) × (List (ByteArray × Int)) × (List ByteArray) × (List Int) × (List (List weirref14_Move)) × (List Bool) × (List api_Final) × (List Int) × (List api_Pick) × Bool × (List (ByteArray × Int)))),weirref14_Lay.l1 y9 a0_1c1v a1 t138 t194 t196 t255 t256 t257 t258 t259 t260 t264 t268 t273 t277 t281 t285 t289 = some e293 → e293 = v213 → ∀ (l292 : List Value) (A261 : Option Addr) (c262 : Nat) (A265 : Option Addr) (c266 : Nat) (A269 : Option Addr) (c270 : Nat) (h272 : Nat → Option Addr × Nat) (A274 : Option Addr) (c275 : Nat) (A278 : Option Addr) (c279 : Nat) (A282 : Option Addr) (c283 : Nat) (A286 : Option Addr) (c287 : Nat) (w290 : World) (hS291 : St w0 Z (xblk b1 32 ([.string y9,.func (.func 28) #[] #[.pointer (some ⟨ba0_1c0,0,none⟩),.pointer (some ⟨ba0_1c1,0,none⟩)],.func (.func 31) #[] #[.pointer (some ⟨ba0_1c1,0,none⟩),.pointer (some ⟨ba0_1c0,0,none⟩)],.func (.func 32) #[] #[.pointer (some ⟨ba0_1c0,0,none⟩),.pointer (some ⟨ba0_1c1,0,none⟩)]])::xblk ba0_1c0 33 ([.pointer (some ⟨ba0_1c0v,0,none⟩)])::xblk ba0_1c0v 49 ([.map (some ba0_1c0vv_0),.map (some ba0_1c0vv_1),.map (some ba0_1c0vv_2),.bool t256])::xmap ba0_1c0vv_0 (t196.map (kv Value.string (Value.int .i64)))::xmap ba0_1c0vv_1 (t258.map (kv Value.string (Value.int .i64)))::xmap ba0_1c0vv_2 (t257.map (kv Value.string (Value.int .i64)))::xblk ba0_1c1 26 ([.slice Aa0_1c1v_0 a0_1c1v.Next.length ca0_1c1v_0,.slice Aa0_1c1v_1 a0_1c1v.End.length ca0_1c1v_1,.slice Aa0_1c1v_2 a0_1c1v.Value.length ca0_1c1v_2,.int .i64 a0_1c1v.Start])::xblk b5 43 ([.slice none 0 0,.slice none 0 0,.slice none 0 0,.slice none 0 0,.slice none 0 0,.slice none 0 0,.slice none 0 0,.bool false,.map none])::xblk b14 43 ([.slice A261 t260.length c262,.slice A265 t264.length c266,.slice A269 t268.length c270,.slice A274 t273.length c275,.slice A278 t277.length c279,.slice A282 t281.length c283,.slice A286 t285.length c287,.bool t289,.map (some b9)])::xrow A261 c262 9 1 (t260.flatMap encS)::xrow A265 c266 3 1 (t264.flatMap (encI .i64))::xrr A269 c270 93 h272 95 4 enc_weirref14_Move t268::xrow A274 c275 4 1 (t273.flatMap encB)::xrow A278 c279 84 49 (t277.flatMap enc_api_Final)::xrow A282 c283 3 1 (t281.flatMap (encI .i64))::xrow A286 c287 88 3 (t285.flatMap enc_api_Pick)::xmap b9 (t259.map (kv Value.string (Value.int .i64)))::xrow Q197 Q198 88 3 (t194.flatMap enc_api_Pick)::fs) w290),Runs Try.prog (fx 10) td106 (fill (mk 93 [(1,.int .i64 a1),(2,.pointer (some ⟨b1,0,none⟩)),(4,.pointer (some ⟨b5,0,none⟩)),(5,.pointer (some ⟨b14,0,none⟩)),(6,.int .i64 t138),(7,.slice Q197 t194.length Q198),(8,.int .i64 t255)]) l292) w290 R:=by
     refine weirref14_Lay.l1.partial_correctness y9 a0_1c1v a1 t138 t194 t196 (fun t255 t256 t257 t258 t259 t260 t264 t268 t273 t277 t281 t285 t289 e293 => e293 = v213 → ∀ (l292 : List Value) (A261 : Option Addr) (c262 : Nat) (A265 : Option Addr) (c266 : Nat) (A269 : Option Addr) (c270 : Nat) (h272 : Nat → Option Addr × Nat) (A274 : Option Addr) (c275 : Nat) (A278 : Option Addr) (c279 : Nat) (A282 : Option Addr) (c283 : Nat) (A286 : Option Addr) (c287 : Nat) (w290 : World) (hS291 : St w0 Z (xblk b1 32 ([.string y9,.func (.func 28) #[] #[.pointer (some ⟨ba0_1c0,0,none⟩),.pointer (some ⟨ba0_1c1,0,none⟩)],.func (.func 31) #[] #[.pointer (some ⟨ba0_1c1,0,none⟩),.pointer (some ⟨ba0_1c0,0,none⟩)],.func (.func 32) #[] #[.pointer (some ⟨ba0_1c0,0,none⟩),.pointer (some ⟨ba0_1c1,0,none⟩)]])::xblk ba0_1c0 33 ([.pointer (some ⟨ba0_1c0v,0,none⟩)])::xblk ba0_1c0v 49 ([.map (some ba0_1c0vv_0),.map (some ba0_1c0vv_1),.map (some ba0_1c0vv_2),.bool t256])::xmap ba0_1c0vv_0 (t196.map (kv Value.string (Value.int .i64)))::xmap ba0_1c0vv_1 (t258.map (kv Value.string (Value.int .i64)))::xmap ba0_1c0vv_2 (t257.map (kv Value.string (Value.int .i64)))::xblk ba0_1c1 26 ([.slice Aa0_1c1v_0 a0_1c1v.Next.length ca0_1c1v_0,.slice Aa0_1c1v_1 a0_1c1v.End.length ca0_1c1v_1,.slice Aa0_1c1v_2 a0_1c1v.Value.length ca0_1c1v_2,.int .i64 a0_1c1v.Start])::xblk b5 43 ([.slice none 0 0,.slice none 0 0,.slice none 0 0,.slice none 0 0,.slice none 0 0,.slice none 0 0,.slice none 0 0,.bool false,.map none])::xblk b14 43 ([.slice A261 t260.length c262,.slice A265 t264.length c266,.slice A269 t268.length c270,.slice A274 t273.length c275,.slice A278 t277.length c279,.slice A282 t281.length c283,.slice A286 t285.length c287,.bool t289,.map (some b9)])::xrow A261 c262 9 1 (t260.flatMap encS)::xrow A265 c266 3 1 (t264.flatMap (encI .i64))::xrr A269 c270 93 h272 95 4 enc_weirref14_Move t268::xrow A274 c275 4 1 (t273.flatMap encB)::xrow A278 c279 84 49 (t277.flatMap enc_api_Final)::xrow A282 c283 3 1 (t281.flatMap (encI .i64))::xrow A286 c287 88 3 (t285.flatMap enc_api_Pick)::xmap b9 (t259.map (kv Value.string (Value.int .i64)))::xrow Q197 Q198 88 3 (t194.flatMap enc_api_Pick)::fs) w290),Runs Try.prog (fx 10) td106 (fill (mk 93 [(1,.int .i64 a1),(2,.pointer (some ⟨b1,0,none⟩)),(4,.pointer (some ⟨b5,0,none⟩)),(5,.pointer (some ⟨b14,0,none⟩)),(6,.int .i64 t138),(7,.slice Q197 t194.length Q198),(8,.int .i64 t255)]) l292) w290 R) ?_
     intro rec297 ih296 t255 t256 t257 t258 t259 t260 t264 t268 t273 t277 t281 t285 t289 e293 hb295 he294 l292 A261 c262 A265 c266 A269 c270 h272 A274 c275 A278 c279 A282 c283 A286 c287 w290 hS291
     refine sI 7 (.inRegion (opsOf (cd10 [1,1,1,0,1,0,0,1,0,0,1,1,0,0,0,0])) []::.code (cd10 [1,1,1,0,1,0,0,1,0,0,1,1,0,0,0,1])::.code (cd10 [1,1,1,0,1,0,0,1,0,0,1,1,0,0,1])::td105) 38 hb295 (fun hp301 => ?_) fun hp560 => ?_
     ·refine sR 6 (.code p10_20::.code (cd10 [1,1,1,0,1,0,0,1,0,0,1,1,0,0,1,0,0,1])::td108) ?_
      have hS302:=hS291.pick17
      have hS303:=hS302.pick10
      have hS304:=hS303.pick10
      have hS305:=hS304.pick9
      have hS306:=hS305.pick9
      have hS307:=hS306.pick9
      have hS308:=hS307.pick9
      have hS309:=hS308.pick9
      have hS310:=hS309.pick9
      have hS311:=hS310.pick9
      generalize hg313 : (xblk b5 43 ([.slice none 0 0,.slice none 0 0,.slice none 0 0,.slice none 0 0,.slice none 0 0,.slice none 0 0,.slice none 0 0,.bool false,.map none])::xrow A265 c266 3 1 (t264.flatMap (encI .i64))::xrr A269 c270 93 h272 95 4 enc_weirref14_Move t268::xrow A274 c275 4 1 (t273.flatMap encB)::xrow A278 c279 84 49 (t277.flatMap enc_api_Final)::xrow A282 c283 3 1 (t281.flatMap (encI .i64))::xrow A286 c287 88 3 (t285.flatMap enc_api_Pick)::xmap b9 (t259.map (kv Value.string (Value.int .i64)))::fs) = gs312 at hS311
      obtain ⟨g314,hp315⟩:=ite_some hp301
      obtain ⟨b316,p317,hA318,-⟩:=(hS311.row 8 rfl).at_ len_encS (by omega) g314.1 g314.2
      obtain ⟨g320,hp321⟩:=ite_some hp315
      obtain ⟨b322,p323,hA324,-⟩:=(hS311.row 9 rfl).at_ len_api_Pick (by omega) g320.1 g320.2
      obtain ⟨⟨t326,t327,t328,t329⟩,hr330,hp331⟩:=bind_some' hp321
      try dsimp only at hp331
      refine r_drawnP (S:=Option Unit) (dn:=(fun (st : Option Unit) k => [st.isSome].getD k true)) (C:=(fun st w' => match st with | none => St w0 Z (xblk b1 32 ([.string y9,.func (.func 28) #[] #[.pointer (some ⟨ba0_1c0,0,none⟩),.pointer (some ⟨ba0_1c1,0,none⟩)],.func (.func 31) #[] #[.pointer (some ⟨ba0_1c1,0,none⟩),.pointer (some ⟨ba0_1c0,0,none⟩)],.func (.func 32) #[] #[.pointer (some ⟨ba0_1c0,0,none⟩),.pointer (some ⟨ba0_1c1,0,none⟩)]])::xblk ba0_1c0 33 ([.pointer (some ⟨ba0_1c0v,0,none⟩)])::xblk ba0_1c0v 49 ([.map (some ba0_1c0vv_0),.map (some ba0_1c0vv_1),.map (some ba0_1c0vv_2),.bool t256])::xmap ba0_1c0vv_0 (t196.map (kv Value.string (Value.int .i64)))::xmap ba0_1c0vv_1 (t258.map (kv Value.string (Value.int .i64)))::xmap ba0_1c0vv_2 (t257.map (kv Value.string (Value.int .i64)))::xblk ba0_1c1 26 ([.slice Aa0_1c1v_0 a0_1c1v.Next.length ca0_1c1v_0,.slice Aa0_1c1v_1 a0_1c1v.End.length ca0_1c1v_1,.slice Aa0_1c1v_2 a0_1c1v.Value.length ca0_1c1v_2,.int .i64 a0_1c1v.Start])::xblk b14 43 ([.slice A261 t260.length c262,.slice A265 t264.length c266,.slice A269 t268.length c270,.slice A274 t273.length c275,.slice A278 t277.length c279,.slice A282 t281.length c283,.slice A286 t285.length c287,.bool t289,.map (some b9)])::xrow A261 c262 9 1 (t260.flatMap encS)::xrow Q197 Q198 88 3 (t194.flatMap enc_api_Pick)::gs312) w' | some x332 => St w0 Z (xblk b1 32 ([.string y9,.func (.func 28) #[] #[.pointer (some ⟨ba0_1c0,0,none⟩),.pointer (some ⟨ba0_1c1,0,none⟩)],.func (.func 31) #[] #[.pointer (some ⟨ba0_1c1,0,none⟩),.pointer (some ⟨ba0_1c0,0,none⟩)],.func (.func 32) #[] #[.pointer (some ⟨ba0_1c0,0,none⟩),.pointer (some ⟨ba0_1c1,0,none⟩)]])::xblk ba0_1c0 33 ([.pointer (some ⟨ba0_1c0v,0,none⟩)])::xblk ba0_1c0v 49 ([.map (some ba0_1c0vv_0),.map (some ba0_1c0vv_1),.map (some ba0_1c0vv_2),.bool t328])::xmap ba0_1c0vv_0 (t196.map (kv Value.string (Value.int .i64)))::xmap ba0_1c0vv_1 (t258.map (kv Value.string (Value.int .i64)))::xmap ba0_1c0vv_2 (t329.map (kv Value.string (Value.int .i64)))::xblk ba0_1c1 26 ([.slice Aa0_1c1v_0 a0_1c1v.Next.length ca0_1c1v_0,.slice Aa0_1c1v_1 a0_1c1v.End.length ca0_1c1v_1,.slice Aa0_1c1v_2 a0_1c1v.Value.length ca0_1c1v_2,.int .i64 a0_1c1v.Start])::xblk b14 43 ([.slice A261 t260.length c262,.slice A265 t264.length c266,.slice A269 t268.length c270,.slice A274 t273.length c275,.slice A278 t277.length c279,.slice A282 t281.length c283,.slice A286 t285.length c287,.bool t289,.map (some b9)])::xrow A261 c262 9 1 (t260.flatMap encS)::xrow Q197 Q198 88 3 (t194.flatMap enc_api_Pick)::gs312) w')) (v:=(fun st => match st with | none => [.pointer (some ⟨b1,2,none⟩),.func (.func 31) #[] #[.pointer (some ⟨ba0_1c1,0,none⟩),.pointer (some ⟨ba0_1c0,0,none⟩)],.pointer (some ⟨b14,0,none⟩),.slice A261 t260.length c262,.int .i64 t138,.pointer (some ⟨b316,p317 + t138.toNat * 1,none⟩),.string (gt t260 t138),.slice Q197 t194.length Q198,.int .i64 t255,.pointer (some ⟨b322,p323 + t255.toNat * 3,none⟩),.agg (enc_api_Pick (gt t194 t255)).toArray,undef,undef,undef,undef,undef,undef] | some x332 => [.pointer (some ⟨b1,2,none⟩),.func (.func 31) #[] #[.pointer (some ⟨ba0_1c1,0,none⟩),.pointer (some ⟨ba0_1c0,0,none⟩)],.pointer (some ⟨b14,0,none⟩),.slice A261 t260.length c262,.int .i64 t138,.pointer (some ⟨b316,p317 + t138.toNat * 1,none⟩),.string (gt t260 t138),.slice Q197 t194.length Q198,.int .i64 t255,.pointer (some ⟨b322,p323 + t255.toNat * 3,none⟩),.agg (enc_api_Pick (gt t194 t255)).toArray,.tuple #[.string t326,.bool t327],.tuple #[.string t326,.bool t327],.string t326,.bool t327,.string t326,.bool t327])) (c:=p10_20) (id:=10) none 0 17 [11] [[],[],[],[],[],[],[],[],[],[],[],[],[0],[0],[0],[0],[0]] [[],[0],[],[],[],[],[0],[],[],[],[0],[],[],[],[],[],[]] [] [true,true,true,true,true,true,true,true,true,true,true,true,true,true,true,true,true] (by kernel_rfl) (by kernel_rfl) (by kernel_rfl) (by kernel_rfl) (by kernel_rfl) (by kernel_rfl) (by kernel_rfl) (by kernel_rfl) (by kernel_rfl) (fun k hk => match k,hk with | 0,_ => rfl | k + 1,hk => absurd hk (by simp)) hS311.drew ?_ (fun k hk => match k,hk with | 0,_ => rfl | k + 1,hk => absurd hk (by simp)) ?_ ?_ ?_
      ·intro i hi st w hC hd
       match i,hi with
       | 0,_ => (show _ = _; kernel_rfl)
       | 1,_ => (show _ = _; kernel_rfl)
       | 2,_ => (show _ = _; kernel_rfl)
       | 3,_ => (show _ = _; kernel_rfl)
       | 4,_ => (show _ = _; kernel_rfl)
       | 5,_ => (show _ = _; kernel_rfl)
       | 6,_ => (show _ = _; kernel_rfl)
       | 7,_ => (show _ = _; kernel_rfl)
       | 8,_ => (show _ = _; kernel_rfl)
       | 9,_ => (show _ = _; kernel_rfl)
       | 10,_ => (show _ = _; kernel_rfl)
       | 11,_ => (show _ = _; kernel_rfl)
       | 12,_ => (show _ = _; kernel_rfl)
       | 13,_ => (show _ = _; kernel_rfl)
       | 14,_ => (show _ = _; kernel_rfl)
       | 15,_ => (show _ = _; kernel_rfl)
       | 16,_ => (show _ = _; kernel_rfl)
       | i + 17,hi => exact absurd hi (by omega)
      ·intro i hi he st w hC hd hu
       match i,hi,he with
       | 0,_,_ =>
        rcases st with _ | x332
        ·dsimp only at hC
         exact dG (.pointer (some ⟨b1,2,none⟩)) hC
        ·dsimp only at hC
         exact dG (.pointer (some ⟨b1,2,none⟩)) hC
       | 1,_,_ =>
        rcases st with _ | x332
        ·dsimp only at hC
         exact ⟨fun _ => does_run (x_load (t:=29) (x:=(.tmp 42)) (p:=⟨b1,2,none⟩) (v:=.func (.func 31) #[] #[.pointer (some ⟨ba0_1c1,0,none⟩),.pointer (some ⟨ba0_1c0,0,none⟩)]) (by kernel_rfl) (loads_at 2 (hC.blk 0 rfl) (by kernel_rfl) (by kernel_rfl)) (by kernel_rfl)) rfl hC,fun h => absurd h (by decide)⟩
        ·exact Bool.noConfusion (hu 0 (by decide))
       | 2,_,_ =>
        rcases st with _ | x332
        ·dsimp only at hC
         exact dG (.pointer (some ⟨b14,0,none⟩)) hC
        ·dsimp only at hC
         exact dG (.pointer (some ⟨b14,0,none⟩)) hC
       | 3,_,_ =>
        rcases st with _ | x332
        ·dsimp only at hC
         exact ⟨fun _ => does_run (x_load (t:=36) (x:=(.tmp 44)) (p:=⟨b14,0,none⟩) (v:=.slice A261 t260.length c262) (by kernel_rfl) (loads_at 0 (hC.blk 7 rfl) (by kernel_rfl) (by kernel_rfl)) (by kernel_rfl)) rfl hC,fun h => absurd h (by decide)⟩
        ·dsimp only at hC
         exact ⟨fun _ => does_run (x_load (t:=36) (x:=(.tmp 44)) (p:=⟨b14,0,none⟩) (v:=.slice A261 t260.length c262) (by kernel_rfl) (loads_at 0 (hC.blk 7 rfl) (by kernel_rfl) (by kernel_rfl)) (by kernel_rfl)) rfl hC,fun h => absurd h (by decide)⟩
       | 4,_,_ =>
        rcases st with _ | x332
        ·dsimp only at hC
         exact dG (.int .i64 t138) hC
        ·dsimp only at hC
         exact dG (.int .i64 t138) hC
       | 5,_,_ =>
        rcases st with _ | x332
        ·dsimp only at hC
         exact ⟨fun _ => does_run (x_indexAddr (t:=36) (e:=9) (x:=(.tmp 45)) (y:=(.tmp 46)) (b:=b316) (o':=p317) (n:=t260.length) (cp:=c262) (sz:=1) (kk:=.i64) (j:=t138) (slv (by kernel_rfl) hA318) (by kernel_rfl) (by kernel_rfl) (by kernel_rfl) g314.1 g314.2 (by kernel_rfl)) rfl hC,fun h => absurd h (by decide)⟩
        ·dsimp only at hC
         exact ⟨fun _ => does_run (x_indexAddr (t:=36) (e:=9) (x:=(.tmp 45)) (y:=(.tmp 46)) (b:=b316) (o':=p317) (n:=t260.length) (cp:=c262) (sz:=1) (kk:=.i64) (j:=t138) (slv (by kernel_rfl) hA318) (by kernel_rfl) (by kernel_rfl) (by kernel_rfl) g314.1 g314.2 (by kernel_rfl)) rfl hC,fun h => absurd h (by decide)⟩
       | 6,_,_ =>
        rcases st with _ | x332
        ·dsimp only at hC
         exact ⟨fun _ => does_run (x_load (t:=9) (x:=(.tmp 47)) (p:=⟨b316,p317 + t138.toNat * 1,none⟩) (v:=.string (gt t260 t138)) (by kernel_rfl) (loads_at 0 ((hC.row 8 rfl).at2 hA318 len_encS (by omega) g314.1 g314.2) (by kernel_rfl) (by kernel_rfl)) (by kernel_rfl)) rfl hC,fun h => absurd h (by decide)⟩
        ·exact Bool.noConfusion (hu 0 (by decide))
       | 7,_,_ =>
        rcases st with _ | x332
        ·dsimp only at hC
         exact dG (.slice Q197 t194.length Q198) hC
        ·dsimp only at hC
         exact dG (.slice Q197 t194.length Q198) hC
       | 8,_,_ =>
        rcases st with _ | x332
        ·dsimp only at hC
         exact dG (.int .i64 t255) hC
        ·dsimp only at hC
         exact dG (.int .i64 t255) hC
       | 9,_,_ =>
        rcases st with _ | x332
        ·dsimp only at hC
         exact ⟨fun _ => does_run (x_indexAddr (t:=40) (e:=88) (x:=(.tmp 49)) (y:=(.tmp 50)) (b:=b322) (o':=p323) (n:=t194.length) (cp:=Q198) (sz:=3) (kk:=.i64) (j:=t255) (slv (by kernel_rfl) hA324) (by kernel_rfl) (by kernel_rfl) (by kernel_rfl) g320.1 g320.2 (by kernel_rfl)) rfl hC,fun h => absurd h (by decide)⟩
        ·dsimp only at hC
         exact ⟨fun _ => does_run (x_indexAddr (t:=40) (e:=88) (x:=(.tmp 49)) (y:=(.tmp 50)) (b:=b322) (o':=p323) (n:=t194.length) (cp:=Q198) (sz:=3) (kk:=.i64) (j:=t255) (slv (by kernel_rfl) hA324) (by kernel_rfl) (by kernel_rfl) (by kernel_rfl) g320.1 g320.2 (by kernel_rfl)) rfl hC,fun h => absurd h (by decide)⟩
       | 10,_,_ =>
        rcases st with _ | x332
        ·dsimp only at hC
         exact ⟨fun _ => does_run (x_load (t:=88) (x:=(.tmp 51)) (p:=⟨b322,p323 + t255.toNat * 3,none⟩) (v:=.agg (enc_api_Pick (gt t194 t255)).toArray) (by kernel_rfl) (loads_agg ((hC.row 9 rfl).at2 hA324 len_api_Pick (by omega) g320.1 g320.2) (by kernel_rfl) (by kernel_rfl)) (by kernel_rfl)) rfl hC,fun h => absurd h (by decide)⟩
        ·exact Bool.noConfusion (hu 0 (by decide))
       | 11,_,he => exact absurd he (by decide)
       | 12,_,_ =>
        rcases st with _ | x332
        ·exact Bool.noConfusion (hd 0 (by decide))
        ·dsimp only at hC
         exact dG (.tuple #[.string t326,.bool t327]) hC
       | 13,_,_ =>
        rcases st with _ | x332
        ·exact Bool.noConfusion (hd 0 (by decide))
        ·dsimp only at hC
         exact dG (.string t326) hC
       | 14,_,_ =>
        rcases st with _ | x332
        ·exact Bool.noConfusion (hd 0 (by decide))
        ·dsimp only at hC
         exact dG (.bool t327) hC
       | 15,_,_ =>
        rcases st with _ | x332
        ·exact Bool.noConfusion (hd 0 (by decide))
        ·dsimp only at hC
         exact dG (.string t326) hC
       | 16,_,_ =>
        rcases st with _ | x332
        ·exact Bool.noConfusion (hd 0 (by decide))
        ·dsimp only at hC
         exact dG (.bool t327) hC
       | i + 17,hi,_ => exact absurd hi (by omega)
      ·intro k hk st w hC hr hm
       match k,hk with
       | 0,_ =>
        rcases st with _ | x332
        ·dsimp only at hC
         have hS365:=hC.pick5
         have hS366:=hS365.pick5
         have hS367:=hS366.pick5
         have hS368:=hS367.pick5
         have hS369:=hS368.pick5
         have hS370:=hS369.pick6
         refine does_call (g:=31) (args:=#[.string (gt t260 t138),.agg (enc_api_Pick (gt t194 t255)).toArray,.pointer (some ⟨ba0_1c1,0,none⟩),.pointer (some ⟨ba0_1c0,0,none⟩)]) (by kernel_rfl) (weirlaw14_Net__machine_2.ok hr330 hS370 ha0_1c1v_0 ha0_1c1v_1 ha0_1c1v_2) ?_
         rintro e w2 ⟨rfl,h2⟩
         refine ⟨_,rfl,?_⟩
         have hS371:=h2.pick9
         have hS372:=hS371.pick9
         have hS373:=hS372.pick9
         have hS374:=hS373.pick3
         have hS375:=hS374.pick8
         have hS376:=hS375.pick8
         have hS377:=hS376.pick8
         have hS378:=hS377.pick8
         have hS379:=hS378.pick8
         have hS380:=hS379.pick9
         have h2:=hS380
         have h2:=h2.pick9
         have h2:=h2.pick9
         have h2:=h2.pick9
         have h2:=h2.pick9
         have h2:=h2.pick9
         have h2:=h2.pick9
         have h2:=h2.pick9
         have h2:=h2.pick9
         have h2:=h2.pick9
         have h2:=h2.pick9
         refine ⟨some (),rfl,?_,?_,.inr rfl,h2⟩
         ·intro m hne; match m,hne with
          | 0,hne => exact absurd rfl hne
          | m + 1,_ => exact rfl
         ·intro j hj; match j,hj with
          | 0,hj => exact rfl
          | 1,hj => exact rfl
          | 2,hj => exact rfl
          | 3,hj => exact rfl
          | 4,hj => exact rfl
          | 5,hj => exact rfl
          | 6,hj => exact rfl
          | 7,hj => exact rfl
          | 8,hj => exact rfl
          | 9,hj => exact rfl
          | 10,hj => exact rfl
          | 11,hj => exact absurd (by decide) hj
          | 12,hj => exact absurd (by decide) hj
          | 13,hj => exact absurd (by decide) hj
          | 14,hj => exact absurd (by decide) hj
          | 15,hj => exact absurd (by decide) hj
          | 16,hj => exact absurd (by decide) hj
          | j + 17,_ => exact rfl
        ·exact Bool.noConfusion hr
       | k + 1,hk => exact absurd hk (by simp)
      intro st384 w381 hS382 hr383
      rcases st384 with _ | x332
      ·exact Bool.noConfusion (hr383 0 (Nat.lt_of_sub_eq_succ rfl))
      replace hS382 : St w0 Z (xblk b1 32 ([.string y9,.func (.func 28) #[] #[.pointer (some ⟨ba0_1c0,0,none⟩),.pointer (some ⟨ba0_1c1,0,none⟩)],.func (.func 31) #[] #[.pointer (some ⟨ba0_1c1,0,none⟩),.pointer (some ⟨ba0_1c0,0,none⟩)],.func (.func 32) #[] #[.pointer (some ⟨ba0_1c0,0,none⟩),.pointer (some ⟨ba0_1c1,0,none⟩)]])::xblk ba0_1c0 33 ([.pointer (some ⟨ba0_1c0v,0,none⟩)])::xblk ba0_1c0v 49 ([.map (some ba0_1c0vv_0),.map (some ba0_1c0vv_1),.map (some ba0_1c0vv_2),.bool t328])::xmap ba0_1c0vv_0 (t196.map (kv Value.string (Value.int .i64)))::xmap ba0_1c0vv_1 (t258.map (kv Value.string (Value.int .i64)))::xmap ba0_1c0vv_2 (t329.map (kv Value.string (Value.int .i64)))::xblk ba0_1c1 26 ([.slice Aa0_1c1v_0 a0_1c1v.Next.length ca0_1c1v_0,.slice Aa0_1c1v_1 a0_1c1v.End.length ca0_1c1v_1,.slice Aa0_1c1v_2 a0_1c1v.Value.length ca0_1c1v_2,.int .i64 a0_1c1v.Start])::xblk b14 43 ([.slice A261 t260.length c262,.slice A265 t264.length c266,.slice A269 t268.length c270,.slice A274 t273.length c275,.slice A278 t277.length c279,.slice A282 t281.length c283,.slice A286 t285.length c287,.bool t289,.map (some b9)])::xrow A261 c262 9 1 (t260.flatMap encS)::xrow Q197 Q198 88 3 (t194.flatMap enc_api_Pick)::gs312) w381:=hS382
      subst hg313
      refine sI 5 (.inRegion (opsOf (cd10 [1,1,1,0,1,0,0,1,0,0,1,1,0,0,1,0,0,1,0,0])) []::.code (cd10 [1,1,1,0,1,0,0,1,0,0,1,1,0,0,1,0,0,1,0,1])::.code (cd10 [1,1,1,0,1,0,0,1,0,0,1,1,0,0,1,0,0,1,1])::td108) 57 hp331 (fun hp387 => ?_) fun hp406 => ?_
      ·refine sR 8 td105 ?_
       have hS388:=hS382.pick9
       have hS389:=hS388.pick17
       have hS390:=hS389.pick17
       have hS391:=hS390.pick17
       have hS392:=hS391.pick17
       have hS393:=hS392.pick17
       have hS394:=hS393.pick17
       have hS395:=hS394.pick17
       have hS396:=hS395.pick16
       have hS397:=hS396.pick16
       have hS398:=hS397.pick17
       have hS399:=hS398.pick17
       have hS400:=hS399.pick17
       have hS401:=hS400.pick17
       have hS402:=hS401.pick17
       have hS403:=hS402.pick17
       have hS404:=hS403.pick17
       have hS405:=hS404.pick17
       refine sR 1 td106 ?_
       exact rF _ (ih296 (IntKind.i64.wrap (t255 + 1)) t328 t329 (id t258) (id t259) (id t260) (id t264) (id t268) (id t273) (id t277) (id t281) (id t285) (id t289) _ hp387 he294 _ A261 c262 A265 c266 A269 c270 (h272) A274 c275 A278 c279 A282 c283 A286 c287 _ hS405)
      refine sR 4 (.code p10_26::.code (cd10 [1,1,1,0,1,0,0,1,0,0,1,1,0,0,1,0,0,1,1,1])::td108) ?_
      refine r_drawn3 (C:=St w0 Z (xblk b1 32 ([.string y9,.func (.func 28) #[] #[.pointer (some ⟨ba0_1c0,0,none⟩),.pointer (some ⟨ba0_1c1,0,none⟩)],.func (.func 31) #[] #[.pointer (some ⟨ba0_1c1,0,none⟩),.pointer (some ⟨ba0_1c0,0,none⟩)],.func (.func 32) #[] #[.pointer (some ⟨ba0_1c0,0,none⟩),.pointer (some ⟨ba0_1c1,0,none⟩)]])::xblk ba0_1c0 33 ([.pointer (some ⟨ba0_1c0v,0,none⟩)])::xblk ba0_1c0v 49 ([.map (some ba0_1c0vv_0),.map (some ba0_1c0vv_1),.map (some ba0_1c0vv_2),.bool t328])::xmap ba0_1c0vv_0 (t196.map (kv Value.string (Value.int .i64)))::xmap ba0_1c0vv_1 (t258.map (kv Value.string (Value.int .i64)))::xmap ba0_1c0vv_2 (t329.map (kv Value.string (Value.int .i64)))::xblk ba0_1c1 26 ([.slice Aa0_1c1v_0 a0_1c1v.Next.length ca0_1c1v_0,.slice Aa0_1c1v_1 a0_1c1v.End.length ca0_1c1v_1,.slice Aa0_1c1v_2 a0_1c1v.Value.length ca0_1c1v_2,.int .i64 a0_1c1v.Start])::xblk b14 43 ([.slice A261 t260.length c262,.slice A265 t264.length c266,.slice A269 t268.length c270,.slice A274 t273.length c275,.slice A278 t277.length c279,.slice A282 t281.length c283,.slice A286 t285.length c287,.bool t289,.map (some b9)])::xrow A261 c262 9 1 (t260.flatMap encS)::xrow Q197 Q198 88 3 (t194.flatMap enc_api_Pick)::xblk b5 43 ([.slice none 0 0,.slice none 0 0,.slice none 0 0,.slice none 0 0,.slice none 0 0,.slice none 0 0,.slice none 0 0,.bool false,.map none])::xrow A265 c266 3 1 (t264.flatMap (encI .i64))::xrr A269 c270 93 h272 95 4 enc_weirref14_Move t268::xrow A274 c275 4 1 (t273.flatMap encB)::xrow A278 c279 84 49 (t277.flatMap enc_api_Final)::xrow A282 c283 3 1 (t281.flatMap (encI .i64))::xrow A286 c287 88 3 (t285.flatMap enc_api_Pick)::xmap b9 (t259.map (kv Value.string (Value.int .i64)))::fs)) (c:=p10_26) (id:=12) (by kernel_rfl) (by kernel_rfl) 14 (Nat.le_of_ble_eq_true (by kernel_rfl)) (by kernel_rfl) (by kernel_rfl) (by kernel_rfl) (is:=[0,1,2,3,4,5,6,7,8,9,10,11,12,13]) (rest:=[14,15]) (by kernel_rfl) (by kernel_rfl) hS382.drew ?_
      refine qLa 32 (.tmp 2) (fun w hC => (hC.blk 0 rfl)) ?_
      refine qR 3 (rg 4 10) ?_
      refine qL1 37 (.tmp 61) 1 (fun w hC => (hC.blk 7 rfl)) ?_
      refine qR 1 (rg 6 8) ?_
      obtain ⟨g407,hp408⟩:=ite_some hp406
      obtain ⟨b409,p410,hA411,-⟩:=(hS382.row 11 rfl).at_ (len_encI .i64) (by omega) g407.1 g407.2
      refine q_indexAddr (c:=(hd p10_26 14)) (i:=6) (d:=(some 64)) (ty:=0) (t:=37) (e:=3) (n:=t264.length) (cp:=c266) (sz:=1) (kk:=.i64) (x:=(.tmp 62)) (y:=(.tmp 63)) (b:=b409) (o':=p410) (j:=t138) (by kernel_rfl) (by kernel_rfl) (slv (by kernel_rfl) hA411) (by kernel_rfl) (by kernel_rfl) (by kernel_rfl) g407.1 g407.2 ?_
      refine qL1 3 (.tmp 64) 0 (fun w hC => ((hC.row 11 rfl).at2 hA411 (len_encI .i64) (by omega) g407.1 g407.2)) ?_
      refine qR 4 [12,13] ?_
      obtain ⟨g413,hp414⟩:=ite_some hp408
      obtain ⟨b415,p416,hA417,-⟩:=(hS382.row 9 rfl).at_ len_api_Pick (by omega) g413.1 g413.2
      refine q_indexAddr (c:=(hd p10_26 14)) (i:=12) (d:=(some 70)) (ty:=0) (t:=40) (e:=88) (n:=t194.length) (cp:=Q198) (sz:=3) (kk:=.i64) (x:=(.tmp 68)) (y:=(.tmp 69)) (b:=b415) (o':=p416) (j:=t255) (by kernel_rfl) (by kernel_rfl) (slv (by kernel_rfl) hA417) (by kernel_rfl) (by kernel_rfl) (by kernel_rfl) g413.1 g413.2 ?_
      refine qLa 88 (.tmp 70) (fun w hC => ((hC.row 9 rfl).at2 hA417 len_api_Pick (by omega) g413.1 g413.2)) ?_
      refine Qs.nil ?_
      intro w419 hS420
      obtain ⟨⟨t421,t422,t423,t424,t425,t426,t427,t428,t429,t430,t431,t432⟩,hr448,hp449⟩:=bind_some' hp414
      try dsimp only at hp449
      have hS460:=hS420.pick6
      have hS461:=hS460.pick6
      have hS462:=hS461.pick6
      have hS463:=hS462.pick6
      have hS464:=hS463.pick6
      have hS465:=hS464.pick6
      have hS466:=hS465.pick17
      have hS467:=hS466.pick17
      have hS468:=hS467.pick17
      have hS469:=hS468.pick17
      have hS470:=hS469.pick17
      have hS471:=hS470.pick17
      have hS472:=hS471.pick17
      have hS473:=hS472.pick15
      have hS474:=hS473.pick15
      refine rC (weirref14_Graph__put.ok hr448 hS474 ha0_1c1v_0 ha0_1c1v_1 ha0_1c1v_2) ?_
      rintro _ w475 ⟨Q433,Q434,Q435,Q436,Q437,Q438,Q439,Q440,Q441,Q442,Q443,Q444,Q445,Q446,Q447,rfl,hS476⟩
      refine ⟨_,rfl,?_⟩
      refine sI 6 (.inRegion (opsOf (cd10 [1,1,1,0,1,0,0,1,0,0,1,1,0,0,1,0,0,1,1,1,0])) []::.code (cd10 [1,1,1,0,1,0,0,1,0,0,1,1,0,0,1,0,0,1,1,1,1])::td108) 74 hp449 (fun hp479 => ?_) fun hp541 => ?_
      ·refine sR 2 (.code p10_30::td108) ?_
       obtain ⟨g480,hp481⟩:=ite_some hp479
       have hS482:=hS476.pick2
       have hS486:=hS482.rrAt g480
       obtain ⟨b487,p488,hA489⟩:=hS486.atH g480
       have hS490:=hS486.pick18
       have hS491:=hS490.pick10
       have hS492:=hS491.pick4
       have hS493:=hS492.pick4
       have hS494:=hS493.pick4
       generalize hg496 : (xrow Q433 Q434 9 1 (t422.flatMap encS)::xrow Q435 Q436 3 1 (t423.flatMap (encI .i64))::xrow Q440 Q441 4 1 (t425.flatMap encB)::xrow Q442 Q443 84 49 (t426.flatMap enc_api_Final)::xrow Q444 Q445 3 1 (t427.flatMap (encI .i64))::xrow Q446 Q447 88 3 (t428.flatMap enc_api_Pick)::xmap b9 (t430.map (kv Value.string (Value.int .i64)))::xblk ba0_1c0 33 ([.pointer (some ⟨ba0_1c0v,0,none⟩)])::xblk ba0_1c0v 49 ([.map (some ba0_1c0vv_0),.map (some ba0_1c0vv_1),.map (some ba0_1c0vv_2),.bool t431])::xmap ba0_1c0vv_0 (t196.map (kv Value.string (Value.int .i64)))::xmap ba0_1c0vv_1 (t432.map (kv Value.string (Value.int .i64)))::xmap ba0_1c0vv_2 (t329.map (kv Value.string (Value.int .i64)))::xblk ba0_1c1 26 ([.slice Aa0_1c1v_0 a0_1c1v.Next.length ca0_1c1v_0,.slice Aa0_1c1v_1 a0_1c1v.End.length ca0_1c1v_1,.slice Aa0_1c1v_2 a0_1c1v.Value.length ca0_1c1v_2,.int .i64 a0_1c1v.Start])::xblk b1 32 ([.string y9,.func (.func 28) #[] #[.pointer (some ⟨ba0_1c0,0,none⟩),.pointer (some ⟨ba0_1c1,0,none⟩)],.func (.func 31) #[] #[.pointer (some ⟨ba0_1c1,0,none⟩),.pointer (some ⟨ba0_1c0,0,none⟩)],.func (.func 32) #[] #[.pointer (some ⟨ba0_1c0,0,none⟩),.pointer (some ⟨ba0_1c1,0,none⟩)]])::xblk b5 43 ([.slice none 0 0,.slice none 0 0,.slice none 0 0,.slice none 0 0,.slice none 0 0,.slice none 0 0,.slice none 0 0,.bool false,.map none])::fs) = gs495 at hS494
       obtain ⟨g497,hp498⟩:=ite_some hp481
       obtain ⟨b499,p500,hA501,-⟩:=(hS494.row 4 rfl).at_ len_api_Pick (by omega) g497.1 g497.2
       obtain ⟨g509,hp510⟩:=ite_some hp498
       refine r_drawnP (S:=Option Nat × Option (Option Addr × Nat) × Option Unit) (dn:=(fun (st : Option Nat × Option (Option Addr × Nat) × Option Unit) k => [st.1.isSome,st.2.1.isSome,st.2.2.isSome].getD k true)) (C:=(fun st w' => match st with | (none,none,none) => St w0 Z (xrow Q437 Q438 93 1 ((hdl Q439 t424).flatMap encH)::xrow ((Q439 t138.toNat).1) ((Q439 t138.toNat).2) 95 4 ((gt t424 t138).flatMap enc_weirref14_Move)::xels (fun k => False ∨ k = t138.toNat) Q439 95 4 enc_weirref14_Move t424::xblk b14 43 ([.slice Q433 t422.length Q434,.slice Q435 t423.length Q436,.slice Q437 t424.length Q438,.slice Q440 t425.length Q441,.slice Q442 t426.length Q443,.slice Q444 t427.length Q445,.slice Q446 t428.length Q447,.bool t429,.map (some b9)])::xrow Q197 Q198 88 3 (t194.flatMap enc_api_Pick)::gs495) w' | (none,none,some _) => False | (none,some x508,none) => False | (none,some x508,some _) => False | (some b503,none,none) => St w0 Z (xrow (some ⟨b503,0,none⟩) 1 95 4 (([(⟨t421,(gt t194 t255)⟩ : weirref14_Move)] : List weirref14_Move).flatMap enc_weirref14_Move)::xrow Q437 Q438 93 1 ((hdl Q439 t424).flatMap encH)::xrow ((Q439 t138.toNat).1) ((Q439 t138.toNat).2) 95 4 ((gt t424 t138).flatMap enc_weirref14_Move)::xels (fun k => False ∨ k = t138.toNat) Q439 95 4 enc_weirref14_Move t424::xblk b14 43 ([.slice Q433 t422.length Q434,.slice Q435 t423.length Q436,.slice Q437 t424.length Q438,.slice Q440 t425.length Q441,.slice Q442 t426.length Q443,.slice Q444 t427.length Q445,.slice Q446 t428.length Q447,.bool t429,.map (some b9)])::xrow Q197 Q198 88 3 (t194.flatMap enc_api_Pick)::gs495) w' | (some b503,none,some _) => False | (some b503,some x508,none) => St w0 Z (xrow x508.1 x508.2 95 4 (((gt t424 t138) ++ ([(⟨t421,(gt t194 t255)⟩ : weirref14_Move)] : List weirref14_Move)).flatMap enc_weirref14_Move)::xrow (some ⟨b503,0,none⟩) 1 95 4 (([(⟨t421,(gt t194 t255)⟩ : weirref14_Move)] : List weirref14_Move).flatMap enc_weirref14_Move)::xrow Q437 Q438 93 1 ((hdl Q439 t424).flatMap encH)::xels (fun k => False ∨ k = t138.toNat) Q439 95 4 enc_weirref14_Move t424::xblk b14 43 ([.slice Q433 t422.length Q434,.slice Q435 t423.length Q436,.slice Q437 t424.length Q438,.slice Q440 t425.length Q441,.slice Q442 t426.length Q443,.slice Q444 t427.length Q445,.slice Q446 t428.length Q447,.bool t429,.map (some b9)])::xrow Q197 Q198 88 3 (t194.flatMap enc_api_Pick)::gs495) w' | (some b503,some x508,some _) => St w0 Z (xrow Q437 Q438 93 1 ((setl (hdl Q439 t424) t138 (x508.1,((gt t424 t138) ++ ([(⟨t421,(gt t194 t255)⟩ : weirref14_Move)] : List weirref14_Move)).length,x508.2)).flatMap encH)::xrow x508.1 x508.2 95 4 (((gt t424 t138) ++ ([(⟨t421,(gt t194 t255)⟩ : weirref14_Move)] : List weirref14_Move)).flatMap enc_weirref14_Move)::xrow (some ⟨b503,0,none⟩) 1 95 4 (([(⟨t421,(gt t194 t255)⟩ : weirref14_Move)] : List weirref14_Move).flatMap enc_weirref14_Move)::xels (fun k => False ∨ k = t138.toNat) Q439 95 4 enc_weirref14_Move t424::xblk b14 43 ([.slice Q433 t422.length Q434,.slice Q435 t423.length Q436,.slice Q437 t424.length Q438,.slice Q440 t425.length Q441,.slice Q442 t426.length Q443,.slice Q444 t427.length Q445,.slice Q446 t428.length Q447,.bool t429,.map (some b9)])::xrow Q197 Q198 88 3 (t194.flatMap enc_api_Pick)::gs495) w')) (v:=(fun st => match st with | (none,none,none) => [.pointer (some ⟨b14,2,none⟩),.slice Q437 t424.length Q438,.int .i64 t138,.pointer (some ⟨b14,2,none⟩),.slice Q437 t424.length Q438,.int .i64 t138,.pointer (some ⟨b487,p488 + t138.toNat * 1,none⟩),.slice ((Q439 t138.toNat).1) (gt t424 t138).length ((Q439 t138.toNat).2),.int .i64 t421,.slice Q197 t194.length Q198,.int .i64 t255,.pointer (some ⟨b499,p500 + t255.toNat * 3,none⟩),.agg (enc_api_Pick (gt t194 t255)).toArray,.agg (enc_weirref14_Move (⟨t421,(gt t194 t255)⟩ : weirref14_Move)).toArray,undef,undef,undef,undef] | (none,none,some _) => [.pointer (some ⟨b14,2,none⟩),.slice Q437 t424.length Q438,.int .i64 t138,.pointer (some ⟨b14,2,none⟩),.slice Q437 t424.length Q438,.int .i64 t138,.pointer (some ⟨b487,p488 + t138.toNat * 1,none⟩),.slice ((Q439 t138.toNat).1) (gt t424 t138).length ((Q439 t138.toNat).2),.int .i64 t421,.slice Q197 t194.length Q198,.int .i64 t255,.pointer (some ⟨b499,p500 + t255.toNat * 3,none⟩),.agg (enc_api_Pick (gt t194 t255)).toArray,.agg (enc_weirref14_Move (⟨t421,(gt t194 t255)⟩ : weirref14_Move)).toArray,undef,undef,undef,undef] | (none,some x508,none) => [.pointer (some ⟨b14,2,none⟩),.slice Q437 t424.length Q438,.int .i64 t138,.pointer (some ⟨b14,2,none⟩),.slice Q437 t424.length Q438,.int .i64 t138,.pointer (some ⟨b487,p488 + t138.toNat * 1,none⟩),.slice ((Q439 t138.toNat).1) (gt t424 t138).length ((Q439 t138.toNat).2),.int .i64 t421,.slice Q197 t194.length Q198,.int .i64 t255,.pointer (some ⟨b499,p500 + t255.toNat * 3,none⟩),.agg (enc_api_Pick (gt t194 t255)).toArray,.agg (enc_weirref14_Move (⟨t421,(gt t194 t255)⟩ : weirref14_Move)).toArray,undef,undef,undef,undef] | (none,some x508,some _) => [.pointer (some ⟨b14,2,none⟩),.slice Q437 t424.length Q438,.int .i64 t138,.pointer (some ⟨b14,2,none⟩),.slice Q437 t424.length Q438,.int .i64 t138,.pointer (some ⟨b487,p488 + t138.toNat * 1,none⟩),.slice ((Q439 t138.toNat).1) (gt t424 t138).length ((Q439 t138.toNat).2),.int .i64 t421,.slice Q197 t194.length Q198,.int .i64 t255,.pointer (some ⟨b499,p500 + t255.toNat * 3,none⟩),.agg (enc_api_Pick (gt t194 t255)).toArray,.agg (enc_weirref14_Move (⟨t421,(gt t194 t255)⟩ : weirref14_Move)).toArray,undef,undef,undef,undef] | (some b503,none,none) => [.pointer (some ⟨b14,2,none⟩),.slice Q437 t424.length Q438,.int .i64 t138,.pointer (some ⟨b14,2,none⟩),.slice Q437 t424.length Q438,.int .i64 t138,.pointer (some ⟨b487,p488 + t138.toNat * 1,none⟩),.slice ((Q439 t138.toNat).1) (gt t424 t138).length ((Q439 t138.toNat).2),.int .i64 t421,.slice Q197 t194.length Q198,.int .i64 t255,.pointer (some ⟨b499,p500 + t255.toNat * 3,none⟩),.agg (enc_api_Pick (gt t194 t255)).toArray,.agg (enc_weirref14_Move (⟨t421,(gt t194 t255)⟩ : weirref14_Move)).toArray,.slice (some ⟨b503,0,none⟩) ([(⟨t421,(gt t194 t255)⟩ : weirref14_Move)] : List weirref14_Move).length 1,undef,undef,undef] | (some b503,none,some _) => [.pointer (some ⟨b14,2,none⟩),.slice Q437 t424.length Q438,.int .i64 t138,.pointer (some ⟨b14,2,none⟩),.slice Q437 t424.length Q438,.int .i64 t138,.pointer (some ⟨b487,p488 + t138.toNat * 1,none⟩),.slice ((Q439 t138.toNat).1) (gt t424 t138).length ((Q439 t138.toNat).2),.int .i64 t421,.slice Q197 t194.length Q198,.int .i64 t255,.pointer (some ⟨b499,p500 + t255.toNat * 3,none⟩),.agg (enc_api_Pick (gt t194 t255)).toArray,.agg (enc_weirref14_Move (⟨t421,(gt t194 t255)⟩ : weirref14_Move)).toArray,.slice (some ⟨b503,0,none⟩) ([(⟨t421,(gt t194 t255)⟩ : weirref14_Move)] : List weirref14_Move).length 1,undef,undef,undef] | (some b503,some x508,none) => [.pointer (some ⟨b14,2,none⟩),.slice Q437 t424.length Q438,.int .i64 t138,.pointer (some ⟨b14,2,none⟩),.slice Q437 t424.length Q438,.int .i64 t138,.pointer (some ⟨b487,p488 + t138.toNat * 1,none⟩),.slice ((Q439 t138.toNat).1) (gt t424 t138).length ((Q439 t138.toNat).2),.int .i64 t421,.slice Q197 t194.length Q198,.int .i64 t255,.pointer (some ⟨b499,p500 + t255.toNat * 3,none⟩),.agg (enc_api_Pick (gt t194 t255)).toArray,.agg (enc_weirref14_Move (⟨t421,(gt t194 t255)⟩ : weirref14_Move)).toArray,.slice (some ⟨b503,0,none⟩) ([(⟨t421,(gt t194 t255)⟩ : weirref14_Move)] : List weirref14_Move).length 1,.slice x508.1 ((gt t424 t138) ++ ([(⟨t421,(gt t194 t255)⟩ : weirref14_Move)] : List weirref14_Move)).length x508.2,.pointer (some ⟨b487,p488 + t138.toNat * 1,none⟩),undef] | (some b503,some x508,some _) => [.pointer (some ⟨b14,2,none⟩),.slice Q437 t424.length Q438,.int .i64 t138,.pointer (some ⟨b14,2,none⟩),.slice Q437 t424.length Q438,.int .i64 t138,.pointer (some ⟨b487,p488 + t138.toNat * 1,none⟩),.slice ((Q439 t138.toNat).1) (gt t424 t138).length ((Q439 t138.toNat).2),.int .i64 t421,.slice Q197 t194.length Q198,.int .i64 t255,.pointer (some ⟨b499,p500 + t255.toNat * 3,none⟩),.agg (enc_api_Pick (gt t194 t255)).toArray,.agg (enc_weirref14_Move (⟨t421,(gt t194 t255)⟩ : weirref14_Move)).toArray,.slice (some ⟨b503,0,none⟩) ([(⟨t421,(gt t194 t255)⟩ : weirref14_Move)] : List weirref14_Move).length 1,.slice x508.1 ((gt t424 t138) ++ ([(⟨t421,(gt t194 t255)⟩ : weirref14_Move)] : List weirref14_Move)).length x508.2,.pointer (some ⟨b487,p488 + t138.toNat * 1,none⟩),undef])) (c:=p10_30) (id:=14) (none,none,none) 17 18 [14,15,17] [[],[],[],[],[],[],[],[],[],[],[],[],[],[],[],[0],[0,1],[0,1]] [[2],[2],[2],[2],[2],[2],[2],[1,2],[2],[2],[2],[2],[2],[0,2],[1,2],[2],[2],[]] [] [true,true,true,true,true,true,true,true,true,true,true,true,true,true,true,true,true,true] (by kernel_rfl) (by kernel_rfl) (by kernel_rfl) (by kernel_rfl) (by kernel_rfl) (by kernel_rfl) (by kernel_rfl) (by kernel_rfl) (by kernel_rfl) (fun k hk => match k,hk with | 0,_ => rfl | 1,_ => rfl | 2,_ => rfl | k + 3,hk => absurd hk (by simp)) hS494.drew ?_ (fun k hk => match k,hk with | 0,_ => rfl | 1,_ => rfl | 2,_ => rfl | k + 3,hk => absurd hk (by simp)) ?_ ?_ ?_
       ·intro i hi st w hC hd
        match i,hi with
        | 0,_ => (show _ = _; kernel_rfl)
        | 1,_ => (show _ = _; kernel_rfl)
        | 2,_ => (show _ = _; kernel_rfl)
        | 3,_ => (show _ = _; kernel_rfl)
        | 4,_ => (show _ = _; kernel_rfl)
        | 5,_ => (show _ = _; kernel_rfl)
        | 6,_ => (show _ = _; kernel_rfl)
        | 7,_ => (show _ = _; kernel_rfl)
        | 8,_ => (show _ = _; kernel_rfl)
        | 9,_ => (show _ = _; kernel_rfl)
        | 10,_ => (show _ = _; kernel_rfl)
        | 11,_ => (show _ = _; kernel_rfl)
        | 12,_ => (show _ = _; kernel_rfl)
        | 13,_ => (show _ = _; kernel_rfl)
        | 14,_ => (show _ = _; kernel_rfl)
        | 15,_ => (show _ = _; kernel_rfl)
        | 16,_ => (show _ = _; kernel_rfl)
        | 17,_ => (show _ = _; kernel_rfl)
        | i + 18,hi => exact absurd hi (by omega)
       ·intro i hi he st w hC hd hu
        match i,hi,he with
        | 0,_,_ =>
         rcases st with ⟨_ | b503,_ | x508,_ | _⟩
         ·dsimp only at hC
          exact dG (.pointer (some ⟨b14,2,none⟩)) hC
         ·exact False.elim hC
         ·exact False.elim hC
         ·exact False.elim hC
         ·dsimp only at hC
          exact dG (.pointer (some ⟨b14,2,none⟩)) hC
         ·exact False.elim hC
         ·dsimp only at hC
          exact dG (.pointer (some ⟨b14,2,none⟩)) hC
         ·exact Bool.noConfusion (hu 2 (by decide))
        | 1,_,_ =>
         rcases st with ⟨_ | b503,_ | x508,_ | _⟩
         ·dsimp only at hC
          exact ⟨fun _ => does_run (x_load (t:=38) (x:=(.tmp 75)) (p:=⟨b14,2,none⟩) (v:=.slice Q437 t424.length Q438) (by kernel_rfl) (loads_at 2 (hC.blk 3 rfl) (by kernel_rfl) (by kernel_rfl)) (by kernel_rfl)) rfl hC,fun h => absurd h (by decide)⟩
         ·exact False.elim hC
         ·exact False.elim hC
         ·exact False.elim hC
         ·dsimp only at hC
          exact ⟨fun _ => does_run (x_load (t:=38) (x:=(.tmp 75)) (p:=⟨b14,2,none⟩) (v:=.slice Q437 t424.length Q438) (by kernel_rfl) (loads_at 2 (hC.blk 4 rfl) (by kernel_rfl) (by kernel_rfl)) (by kernel_rfl)) rfl hC,fun h => absurd h (by decide)⟩
         ·exact False.elim hC
         ·dsimp only at hC
          exact ⟨fun _ => does_run (x_load (t:=38) (x:=(.tmp 75)) (p:=⟨b14,2,none⟩) (v:=.slice Q437 t424.length Q438) (by kernel_rfl) (loads_at 2 (hC.blk 4 rfl) (by kernel_rfl) (by kernel_rfl)) (by kernel_rfl)) rfl hC,fun h => absurd h (by decide)⟩
         ·exact Bool.noConfusion (hu 2 (by decide))
        | 2,_,_ =>
         rcases st with ⟨_ | b503,_ | x508,_ | _⟩
         ·dsimp only at hC
          exact dG (.int .i64 t138) hC
         ·exact False.elim hC
         ·exact False.elim hC
         ·exact False.elim hC
         ·dsimp only at hC
          exact dG (.int .i64 t138) hC
         ·exact False.elim hC
         ·dsimp only at hC
          exact dG (.int .i64 t138) hC
         ·exact Bool.noConfusion (hu 2 (by decide))
        | 3,_,_ =>
         rcases st with ⟨_ | b503,_ | x508,_ | _⟩
         ·dsimp only at hC
          exact dG (.pointer (some ⟨b14,2,none⟩)) hC
         ·exact False.elim hC
         ·exact False.elim hC
         ·exact False.elim hC
         ·dsimp only at hC
          exact dG (.pointer (some ⟨b14,2,none⟩)) hC
         ·exact False.elim hC
         ·dsimp only at hC
          exact dG (.pointer (some ⟨b14,2,none⟩)) hC
         ·exact Bool.noConfusion (hu 2 (by decide))
        | 4,_,_ =>
         rcases st with ⟨_ | b503,_ | x508,_ | _⟩
         ·dsimp only at hC
          exact ⟨fun _ => does_run (x_load (t:=38) (x:=(.tmp 78)) (p:=⟨b14,2,none⟩) (v:=.slice Q437 t424.length Q438) (by kernel_rfl) (loads_at 2 (hC.blk 3 rfl) (by kernel_rfl) (by kernel_rfl)) (by kernel_rfl)) rfl hC,fun h => absurd h (by decide)⟩
         ·exact False.elim hC
         ·exact False.elim hC
         ·exact False.elim hC
         ·dsimp only at hC
          exact ⟨fun _ => does_run (x_load (t:=38) (x:=(.tmp 78)) (p:=⟨b14,2,none⟩) (v:=.slice Q437 t424.length Q438) (by kernel_rfl) (loads_at 2 (hC.blk 4 rfl) (by kernel_rfl) (by kernel_rfl)) (by kernel_rfl)) rfl hC,fun h => absurd h (by decide)⟩
         ·exact False.elim hC
         ·dsimp only at hC
          exact ⟨fun _ => does_run (x_load (t:=38) (x:=(.tmp 78)) (p:=⟨b14,2,none⟩) (v:=.slice Q437 t424.length Q438) (by kernel_rfl) (loads_at 2 (hC.blk 4 rfl) (by kernel_rfl) (by kernel_rfl)) (by kernel_rfl)) rfl hC,fun h => absurd h (by decide)⟩
         ·exact Bool.noConfusion (hu 2 (by decide))
        | 5,_,_ =>
         rcases st with ⟨_ | b503,_ | x508,_ | _⟩
         ·dsimp only at hC
          exact dG (.int .i64 t138) hC
         ·exact False.elim hC
         ·exact False.elim hC
         ·exact False.elim hC
         ·dsimp only at hC
          exact dG (.int .i64 t138) hC
         ·exact False.elim hC
         ·dsimp only at hC
          exact dG (.int .i64 t138) hC
         ·exact Bool.noConfusion (hu 2 (by decide))
        | 6,_,_ =>
         rcases st with ⟨_ | b503,_ | x508,_ | _⟩
         ·dsimp only at hC
          exact ⟨fun _ => does_run (x_indexAddr (t:=38) (e:=93) (x:=(.tmp 79)) (y:=(.tmp 80)) (b:=b487) (o':=p488) (n:=t424.length) (cp:=Q438) (sz:=1) (kk:=.i64) (j:=t138) (slv (by kernel_rfl) hA489) (by kernel_rfl) (by kernel_rfl) (by kernel_rfl) g480.1 g480.2 (by kernel_rfl)) rfl hC,fun h => absurd h (by decide)⟩
         ·exact False.elim hC
         ·exact False.elim hC
         ·exact False.elim hC
         ·dsimp only at hC
          exact ⟨fun _ => does_run (x_indexAddr (t:=38) (e:=93) (x:=(.tmp 79)) (y:=(.tmp 80)) (b:=b487) (o':=p488) (n:=t424.length) (cp:=Q438) (sz:=1) (kk:=.i64) (j:=t138) (slv (by kernel_rfl) hA489) (by kernel_rfl) (by kernel_rfl) (by kernel_rfl) g480.1 g480.2 (by kernel_rfl)) rfl hC,fun h => absurd h (by decide)⟩
         ·exact False.elim hC
         ·dsimp only at hC
          exact ⟨fun _ => does_run (x_indexAddr (t:=38) (e:=93) (x:=(.tmp 79)) (y:=(.tmp 80)) (b:=b487) (o':=p488) (n:=t424.length) (cp:=Q438) (sz:=1) (kk:=.i64) (j:=t138) (slv (by kernel_rfl) hA489) (by kernel_rfl) (by kernel_rfl) (by kernel_rfl) g480.1 g480.2 (by kernel_rfl)) rfl hC,fun h => absurd h (by decide)⟩
         ·exact Bool.noConfusion (hu 2 (by decide))
        | 7,_,_ =>
         rcases st with ⟨_ | b503,_ | x508,_ | _⟩
         ·dsimp only at hC
          exact ⟨fun _ => does_run (x_load (t:=93) (x:=(.tmp 81)) (p:=⟨b487,p488 + t138.toNat * 1,none⟩) (v:=.slice ((Q439 t138.toNat).1) (gt t424 t138).length ((Q439 t138.toNat).2)) (by kernel_rfl) (loads_at 0 (RowIn.at2H (x:=((Q439 t138.toNat).1,(gt t424 t138).length,(Q439 t138.toNat).2)) (hC.row 0 rfl) hA489 (hdl_g g480) (hdl_gt g480)) (by kernel_rfl) (by kernel_rfl)) (by kernel_rfl)) rfl hC,fun h => absurd h (by decide)⟩
         ·exact False.elim hC
         ·exact False.elim hC
         ·exact False.elim hC
         ·dsimp only at hC
          exact ⟨fun _ => does_run (x_load (t:=93) (x:=(.tmp 81)) (p:=⟨b487,p488 + t138.toNat * 1,none⟩) (v:=.slice ((Q439 t138.toNat).1) (gt t424 t138).length ((Q439 t138.toNat).2)) (by kernel_rfl) (loads_at 0 (RowIn.at2H (x:=((Q439 t138.toNat).1,(gt t424 t138).length,(Q439 t138.toNat).2)) (hC.row 1 rfl) hA489 (hdl_g g480) (hdl_gt g480)) (by kernel_rfl) (by kernel_rfl)) (by kernel_rfl)) rfl hC,fun h => absurd h (by decide)⟩
         ·exact False.elim hC
         ·exact Bool.noConfusion (hu 1 (by decide))
         ·exact Bool.noConfusion (hu 1 (by decide))
        | 8,_,_ =>
         rcases st with ⟨_ | b503,_ | x508,_ | _⟩
         ·dsimp only at hC
          exact dG (.int .i64 t421) hC
         ·exact False.elim hC
         ·exact False.elim hC
         ·exact False.elim hC
         ·dsimp only at hC
          exact dG (.int .i64 t421) hC
         ·exact False.elim hC
         ·dsimp only at hC
          exact dG (.int .i64 t421) hC
         ·exact Bool.noConfusion (hu 2 (by decide))
        | 9,_,_ =>
         rcases st with ⟨_ | b503,_ | x508,_ | _⟩
         ·dsimp only at hC
          exact dG (.slice Q197 t194.length Q198) hC
         ·exact False.elim hC
         ·exact False.elim hC
         ·exact False.elim hC
         ·dsimp only at hC
          exact dG (.slice Q197 t194.length Q198) hC
         ·exact False.elim hC
         ·dsimp only at hC
          exact dG (.slice Q197 t194.length Q198) hC
         ·exact Bool.noConfusion (hu 2 (by decide))
        | 10,_,_ =>
         rcases st with ⟨_ | b503,_ | x508,_ | _⟩
         ·dsimp only at hC
          exact dG (.int .i64 t255) hC
         ·exact False.elim hC
         ·exact False.elim hC
         ·exact False.elim hC
         ·dsimp only at hC
          exact dG (.int .i64 t255) hC
         ·exact False.elim hC
         ·dsimp only at hC
          exact dG (.int .i64 t255) hC
         ·exact Bool.noConfusion (hu 2 (by decide))
        | 11,_,_ =>
         rcases st with ⟨_ | b503,_ | x508,_ | _⟩
         ·dsimp only at hC
          exact ⟨fun _ => does_run (x_indexAddr (t:=40) (e:=88) (x:=(.tmp 84)) (y:=(.tmp 85)) (b:=b499) (o':=p500) (n:=t194.length) (cp:=Q198) (sz:=3) (kk:=.i64) (j:=t255) (slv (by kernel_rfl) hA501) (by kernel_rfl) (by kernel_rfl) (by kernel_rfl) g497.1 g497.2 (by kernel_rfl)) rfl hC,fun h => absurd h (by decide)⟩
         ·exact False.elim hC
         ·exact False.elim hC
         ·exact False.elim hC
         ·dsimp only at hC
          exact ⟨fun _ => does_run (x_indexAddr (t:=40) (e:=88) (x:=(.tmp 84)) (y:=(.tmp 85)) (b:=b499) (o':=p500) (n:=t194.length) (cp:=Q198) (sz:=3) (kk:=.i64) (j:=t255) (slv (by kernel_rfl) hA501) (by kernel_rfl) (by kernel_rfl) (by kernel_rfl) g497.1 g497.2 (by kernel_rfl)) rfl hC,fun h => absurd h (by decide)⟩
         ·exact False.elim hC
         ·dsimp only at hC
          exact ⟨fun _ => does_run (x_indexAddr (t:=40) (e:=88) (x:=(.tmp 84)) (y:=(.tmp 85)) (b:=b499) (o':=p500) (n:=t194.length) (cp:=Q198) (sz:=3) (kk:=.i64) (j:=t255) (slv (by kernel_rfl) hA501) (by kernel_rfl) (by kernel_rfl) (by kernel_rfl) g497.1 g497.2 (by kernel_rfl)) rfl hC,fun h => absurd h (by decide)⟩
         ·exact Bool.noConfusion (hu 2 (by decide))
        | 12,_,_ =>
         rcases st with ⟨_ | b503,_ | x508,_ | _⟩
         ·dsimp only at hC
          exact ⟨fun _ => does_run (x_load (t:=88) (x:=(.tmp 86)) (p:=⟨b499,p500 + t255.toNat * 3,none⟩) (v:=.agg (enc_api_Pick (gt t194 t255)).toArray) (by kernel_rfl) (loads_agg ((hC.row 4 rfl).at2 hA501 len_api_Pick (by omega) g497.1 g497.2) (by kernel_rfl) (by kernel_rfl)) (by kernel_rfl)) rfl hC,fun h => absurd h (by decide)⟩
         ·exact False.elim hC
         ·exact False.elim hC
         ·exact False.elim hC
         ·dsimp only at hC
          exact ⟨fun _ => does_run (x_load (t:=88) (x:=(.tmp 86)) (p:=⟨b499,p500 + t255.toNat * 3,none⟩) (v:=.agg (enc_api_Pick (gt t194 t255)).toArray) (by kernel_rfl) (loads_agg ((hC.row 5 rfl).at2 hA501 len_api_Pick (by omega) g497.1 g497.2) (by kernel_rfl) (by kernel_rfl)) (by kernel_rfl)) rfl hC,fun h => absurd h (by decide)⟩
         ·exact False.elim hC
         ·dsimp only at hC
          exact ⟨fun _ => does_run (x_load (t:=88) (x:=(.tmp 86)) (p:=⟨b499,p500 + t255.toNat * 3,none⟩) (v:=.agg (enc_api_Pick (gt t194 t255)).toArray) (by kernel_rfl) (loads_agg ((hC.row 5 rfl).at2 hA501 len_api_Pick (by omega) g497.1 g497.2) (by kernel_rfl) (by kernel_rfl)) (by kernel_rfl)) rfl hC,fun h => absurd h (by decide)⟩
         ·exact Bool.noConfusion (hu 2 (by decide))
        | 13,_,_ =>
         rcases st with ⟨_ | b503,_ | x508,_ | _⟩
         ·dsimp only at hC
          exact dG (.agg (enc_weirref14_Move (⟨t421,(gt t194 t255)⟩ : weirref14_Move)).toArray) hC
         ·exact False.elim hC
         ·exact False.elim hC
         ·exact False.elim hC
         ·exact Bool.noConfusion (hu 0 (by decide))
         ·exact False.elim hC
         ·exact Bool.noConfusion (hu 0 (by decide))
         ·exact Bool.noConfusion (hu 0 (by decide))
        | 14,_,he => exact absurd he (by decide)
        | 15,_,he => exact absurd he (by decide)
        | 16,_,_ =>
         rcases st with ⟨_ | b503,_ | x508,_ | _⟩
         ·exact Bool.noConfusion (hd 0 (by decide))
         ·exact False.elim hC
         ·exact False.elim hC
         ·exact False.elim hC
         ·exact Bool.noConfusion (hd 1 (by decide))
         ·exact False.elim hC
         ·dsimp only at hC
          exact ⟨fun _ => does_run (x_indexAddr (t:=38) (e:=93) (x:=(.tmp 76)) (y:=(.tmp 77)) (b:=b487) (o':=p488) (n:=t424.length) (cp:=Q438) (sz:=1) (kk:=.i64) (j:=t138) (slv (by kernel_rfl) hA489) (by kernel_rfl) (by kernel_rfl) (by kernel_rfl) g480.1 g480.2 (by kernel_rfl)) rfl hC,fun h => absurd h (by decide)⟩
         ·exact Bool.noConfusion (hu 2 (by decide))
        | 17,_,he => exact absurd he (by decide)
        | i + 18,hi,_ => exact absurd hi (by omega)
       ·intro k hk st w hC hr hm
        match k,hk with
        | 0,_ =>
         rcases st with ⟨_ | b503,_ | x508,_ | _⟩
         ·dsimp only at hC
          refine does_lit (t:=93) (e:=95) (sz:=4) (n:=1) (parts:=#[(0,(.tmp 88))]) (vs:=[(0,.agg (enc_weirref14_Move (⟨t421,(gt t194 t255)⟩ : weirref14_Move)).toArray)]) (z:=zeroOf Try.prog 95) (cs':=([(⟨t421,(gt t194 t255)⟩ : weirref14_Move)] : List weirref14_Move).flatMap enc_weirref14_Move) hC (by kernel_rfl) (by kernel_rfl) (by kernel_rfl) (by kernel_rfl) (by decide) (by decide) (by kernel_rfl) rfl (Parts.cons (c:=enc_weirref14_Move (⟨t421,(gt t194 t255)⟩ : weirref14_Move)) (by kernel_rfl) (len_weirref14_Move _) Parts.nil) rfl ?_
          intro b503 w2 h2
          have h2:=h2.pick5
          have h2:=h2.pick5
          have h2:=h2.pick5
          have h2:=h2.pick5
          have h2:=h2.pick5
          have h2:=h2.pick5
          refine ⟨(some b503,none,none),rfl,?_,?_,.inr rfl,h2⟩
          ·intro m hne; match m,hne with
           | 0,hne => exact absurd rfl hne
           | 1,hne => exact rfl
           | 2,hne => exact rfl
           | m + 3,_ => exact rfl
          ·intro j hj; match j,hj with
           | 0,hj => exact rfl
           | 1,hj => exact rfl
           | 2,hj => exact rfl
           | 3,hj => exact rfl
           | 4,hj => exact rfl
           | 5,hj => exact rfl
           | 6,hj => exact rfl
           | 7,hj => exact rfl
           | 8,hj => exact rfl
           | 9,hj => exact rfl
           | 10,hj => exact rfl
           | 11,hj => exact rfl
           | 12,hj => exact rfl
           | 13,hj => exact rfl
           | 14,hj => exact absurd (by decide) hj
           | 15,hj => exact absurd (by decide) hj
           | 16,hj => exact absurd (by decide) hj
           | 17,hj => exact absurd (by decide) hj
           | j + 18,_ => exact rfl
         ·exact False.elim hC
         ·exact False.elim hC
         ·exact False.elim hC
         ·exact Bool.noConfusion hr
         ·exact False.elim hC
         ·exact Bool.noConfusion hr
         ·exact Bool.noConfusion hr
        | 1,_ =>
         rcases st with ⟨_ | b503,_ | x508,_ | _⟩
         ·exact Bool.noConfusion (hm 0 (by decide))
         ·exact False.elim hC
         ·exact False.elim hC
         ·exact False.elim hC
         ·dsimp only at hC
          have hC:=hC.pick2
          refine does_append (enc:=enc_weirref14_Move) (e:=95) (u:=95) (t:=93) (t2:=93) (sz:=4) (cp:=((Q439 t138.toNat).2)) (A:=((Q439 t138.toNat).1)) (bytes:=32) (xs:=(gt t424 t138)) (ys:=([(⟨t421,(gt t194 t255)⟩ : weirref14_Move)] : List weirref14_Move)) (s:=(.tmp 82)) (x:=(.tmp 89)) (xv:=.slice (some ⟨b503,0,none⟩) ([(⟨t421,(gt t194 t255)⟩ : weirref14_Move)] : List weirref14_Move).length 1) (info:=infoOf Try.prog 95) (z:=zeroOf Try.prog 95) (ycs:=([(⟨t421,(gt t194 t255)⟩ : weirref14_Move)] : List weirref14_Move).flatMap enc_weirref14_Move) hC (by kernel_rfl) (by kernel_rfl) (by kernel_rfl) (by kernel_rfl) (.inl (by kernel_rfl)) (by kernel_rfl) (by kernel_rfl) (by kernel_rfl) (by kernel_rfl) (by kernel_rfl) (by omega) len_weirref14_Move one_weirref14_Move (src_row (hC.row 1 rfl) (by omega) len_weirref14_Move) rfl g509 (by omega) ?_
          intro A505 c506 w2 h2
          have h2:=h2.pick5
          have h2:=h2.pick5
          have h2:=h2.pick5
          have h2:=h2.pick5
          have h2:=h2.pick5
          have h2:=h2.pick5
          refine ⟨(some b503,some (A505,c506),none),rfl,?_,?_,.inr rfl,h2⟩
          ·intro m hne; match m,hne with
           | 0,hne => exact rfl
           | 1,hne => exact absurd rfl hne
           | 2,hne => exact rfl
           | m + 3,_ => exact rfl
          ·intro j hj; match j,hj with
           | 0,hj => exact rfl
           | 1,hj => exact rfl
           | 2,hj => exact rfl
           | 3,hj => exact rfl
           | 4,hj => exact rfl
           | 5,hj => exact rfl
           | 6,hj => exact rfl
           | 7,hj => exact rfl
           | 8,hj => exact rfl
           | 9,hj => exact rfl
           | 10,hj => exact rfl
           | 11,hj => exact rfl
           | 12,hj => exact rfl
           | 13,hj => exact rfl
           | 14,hj => exact rfl
           | 15,hj => exact absurd (by decide) hj
           | 16,hj => exact absurd (by decide) hj
           | 17,hj => exact absurd (by decide) hj
           | j + 18,_ => exact rfl
         ·exact False.elim hC
         ·exact Bool.noConfusion hr
         ·exact Bool.noConfusion hr
        | 2,_ =>
         rcases st with ⟨_ | b503,_ | x508,_ | _⟩
         ·exact Bool.noConfusion (hm 0 (by decide))
         ·exact False.elim hC
         ·exact False.elim hC
         ·exact False.elim hC
         ·exact Bool.noConfusion (hm 1 (by decide))
         ·exact False.elim hC
         ·dsimp only at hC
          have hC:=hC.pick2
          refine does_storeEl (enc:=encH) (e:=93) (t:=93) (sz:=1) (cp:=Q438) (A:=Q437) (xs:=(hdl Q439 t424)) (x:=(.tmp 91)) (y:=(.tmp 90)) (el:=gt (hdl Q439 t424) t138) (el':=(x508.1,((gt t424 t138) ++ ([(⟨t421,(gt t194 t255)⟩ : weirref14_Move)] : List weirref14_Move)).length,x508.2)) (j:=t138) (off:=0) (b:=b487) (q:=p488) (v:=.slice x508.1 ((gt t424 t138) ++ ([(⟨t421,(gt t194 t255)⟩ : weirref14_Move)] : List weirref14_Move)).length x508.2) (vs:=[.slice x508.1 ((gt t424 t138) ++ ([(⟨t421,(gt t194 t255)⟩ : weirref14_Move)] : List weirref14_Move)).length x508.2]) (ad:=⟨b487,p488 + t138.toNat * 1,none⟩) hC (by kernel_rfl) (by kernel_rfl) (by kernel_rfl) (by simp) (by kernel_rfl) hA489 (hdl_g g480) rfl len_encH (by kernel_rfl) (by kernel_rfl) (by kernel_rfl) (Nat.le_of_ble_eq_true (by kernel_rfl)) (Nat.le_of_ble_eq_true (by kernel_rfl)) rfl ?_
          intro w2 h2
          have h2:=h2.pick5
          have h2:=h2.pick5
          have h2:=h2.pick5
          have h2:=h2.pick5
          have h2:=h2.pick5
          have h2:=h2.pick5
          refine ⟨(some b503,some x508,some ()),rfl,?_,?_,.inl rfl,h2⟩
          ·intro m hne; match m,hne with
           | 0,hne => exact rfl
           | 1,hne => exact rfl
           | 2,hne => exact absurd rfl hne
           | m + 3,_ => exact rfl
          ·intro j hj; match j,hj with
           | 0,hj => exact rfl
           | 1,hj => exact rfl
           | 2,hj => exact rfl
           | 3,hj => exact rfl
           | 4,hj => exact rfl
           | 5,hj => exact rfl
           | 6,hj => exact rfl
           | 7,hj => exact rfl
           | 8,hj => exact rfl
           | 9,hj => exact rfl
           | 10,hj => exact rfl
           | 11,hj => exact rfl
           | 12,hj => exact rfl
           | 13,hj => exact rfl
           | 14,hj => exact rfl
           | 15,hj => exact rfl
           | 16,hj => exact rfl
           | 17,hj => exact absurd (by decide) hj
           | j + 18,_ => exact rfl
         ·exact Bool.noConfusion hr
        | k + 3,hk => exact absurd hk (by simp)
       intro st514 w511 hS512 hr513
       rcases st514 with ⟨_ | b503,_ | x508,_ | _⟩
       ·exact Bool.noConfusion (hr513 0 (Nat.lt_of_sub_eq_succ rfl))
       ·exact Bool.noConfusion (hr513 0 (Nat.lt_of_sub_eq_succ rfl))
       ·exact Bool.noConfusion (hr513 0 (Nat.lt_of_sub_eq_succ rfl))
       ·exact Bool.noConfusion (hr513 0 (Nat.lt_of_sub_eq_succ rfl))
       ·exact Bool.noConfusion (hr513 1 (Nat.lt_of_sub_eq_succ rfl))
       ·exact Bool.noConfusion (hr513 1 (Nat.lt_of_sub_eq_succ rfl))
       ·exact Bool.noConfusion (hr513 2 (Nat.lt_of_sub_eq_succ rfl))
       replace hS512 : St w0 Z (xrow Q437 Q438 93 1 ((setl (hdl Q439 t424) t138 (x508.1,((gt t424 t138) ++ ([(⟨t421,(gt t194 t255)⟩ : weirref14_Move)] : List weirref14_Move)).length,x508.2)).flatMap encH)::xrow x508.1 x508.2 95 4 (((gt t424 t138) ++ ([(⟨t421,(gt t194 t255)⟩ : weirref14_Move)] : List weirref14_Move)).flatMap enc_weirref14_Move)::xrow (some ⟨b503,0,none⟩) 1 95 4 (([(⟨t421,(gt t194 t255)⟩ : weirref14_Move)] : List weirref14_Move).flatMap enc_weirref14_Move)::xels (fun k => False ∨ k = t138.toNat) Q439 95 4 enc_weirref14_Move t424::xblk b14 43 ([.slice Q433 t422.length Q434,.slice Q435 t423.length Q436,.slice Q437 t424.length Q438,.slice Q440 t425.length Q441,.slice Q442 t426.length Q443,.slice Q444 t427.length Q445,.slice Q446 t428.length Q447,.bool t429,.map (some b9)])::xrow Q197 Q198 88 3 (t194.flatMap enc_api_Pick)::gs495) w511:=hS512
       subst hg496
       have hS515:=hS512.pick3
       have hS516:=hS515.pick2
       have hS517:=hS516.pick2
       have hS518:=hS517.rrBack g480
       refine rF [none,none,none,none,none,none,none,none,none,none,none,none,none,none,none,none,none,none,none,none,none,none,none,none,none,none,none,none,none,none,none,none,none,none,none,none,none,none,none,none,none,none,none,none,none,none,none,none,none,none,none,none,none,none,none,none,none,none,none,none,none,none,none,none,none,none,none,none,none,none,none,none,none,none,none,none,some (.slice Q437 t424.length Q438),none,none,some (.slice Q437 t424.length Q438),none,none,none,none,none,none,none,none,none,none,none,none,none] ?_
       refine Runs.refill (m':=[none,none,none,none,none,none,none,none,none,none,none,none,none,none,none,none,none,none,none,none,none,none,none,none,none,none,none,none,none,none,none,none,none,none,none,none,none,none,none,none,none,none,none,none,none,none,none,none,none,none,none,none,none,none,none,none,none,none,none,none,none,none,none,none,none,none,none,none,none,none,none,none,none,none,none,none,some (.slice Q437 (setl t424 t138 ((gt t424 t138) ++ ([(⟨t421,(gt t194 t255)⟩ : weirref14_Move)] : List weirref14_Move))).length Q438),none,none,some (.slice Q437 (setl t424 t138 ((gt t424 t138) ++ ([(⟨t421,(gt t194 t255)⟩ : weirref14_Move)] : List weirref14_Move))).length Q438),none,none,none,none,none,none,none,none,none,none,none,none,none]) (by simp only [setl_len]) ?_
       have hS519:=hS518.pick2
       have hS520:=hS519.eqblk (cs':=[.slice Q433 t422.length Q434,.slice Q435 t423.length Q436,.slice Q437 (setl t424 t138 ((gt t424 t138) ++ ([(⟨t421,(gt t194 t255)⟩ : weirref14_Move)] : List weirref14_Move))).length Q438,.slice Q440 t425.length Q441,.slice Q442 t426.length Q443,.slice Q444 t427.length Q445,.slice Q446 t428.length Q447,.bool t429,.map (some b9)]) (by simp only [setl_len])
       refine sR 6 td105 ?_
       have hS521:=hS520.pick2
       have hS522:=hS521.drop
       have hS523:=hS522.pick2
       have hS524:=hS523.pick9
       have hS525:=hS524.pick9
       have hS526:=hS525.pick9
       have hS527:=hS526.pick9
       have hS528:=hS527.pick9
       have hS529:=hS528.pick7
       have hS530:=hS529.pick9
       have hS531:=hS530.pick9
       have hS532:=hS531.pick9
       have hS533:=hS532.pick17
       have hS534:=hS533.pick16
       have hS535:=hS534.pick16
       have hS536:=hS535.pick16
       have hS537:=hS536.pick16
       have hS538:=hS537.pick16
       have hS539:=hS538.pick16
       have hS540:=hS539.pick17
       refine sR 1 td106 ?_
       exact rF _ (ih296 (IntKind.i64.wrap (t255 + 1)) t431 t329 t432 t430 t422 t423 (setl t424 t138 ((gt t424 t138) ++ ([(⟨t421,(gt t194 t255)⟩ : weirref14_Move)] : List weirref14_Move))) t425 t426 t427 t428 t429 _ hp510 he294 _ Q433 Q434 Q435 Q436 Q437 Q438 ((upd Q439 t138.toNat (x508.1,x508.2))) Q440 Q441 Q442 Q443 Q444 Q445 Q446 Q447 _ hS540)
      refine sR 9 td105 ?_
      have hS542:=hS476.pick16
      have hS543:=hS542.pick9
      have hS544:=hS543.pick8
      have hS545:=hS544.pick8
      have hS546:=hS545.pick8
      have hS547:=hS546.pick8
      have hS548:=hS547.pick8
      have hS549:=hS548.pick8
      have hS550:=hS549.pick8
      have hS551:=hS550.pick9
      have hS552:=hS551.pick17
      have hS553:=hS552.pick16
      have hS554:=hS553.pick16
      have hS555:=hS554.pick16
      have hS556:=hS555.pick16
      have hS557:=hS556.pick16
      have hS558:=hS557.pick16
      have hS559:=hS558.pick17
      refine sR 1 td106 ?_
      exact rF _ (ih296 (IntKind.i64.wrap (t255 + 1)) t431 t329 t432 t430 t422 t423 t424 t425 t426 t427 t428 t429 _ hp541 he294 _ Q433 Q434 Q435 Q436 Q437 Q438 (Q439) Q440 Q441 Q442 Q443 Q444 Q445 Q446 Q447 _ hS559)
     refine sR 3 td103 ?_
     have hS561:=hS291.pick17
     have hS562:=hS561.drop
     exact rF _ (J252 t256 t258 t257 t260 t264 t268 t273 t277 t281 t285 t289 t259 ((Option.some.inj hp560).trans he294) _ A261 c262 A265 c266 A269 c270 (h272) A274 c275 A278 c279 A282 c283 A286 c287 _ hS562)
    have hS563:=hS212.pick17
    have hS564:=hS563.pick17
    have hS565:=hS564.pick17
    have hS566:=hS565.pick17
    have hS567:=hS566.pick17
    have hS568:=hS567.pick17
    have hS569:=hS568.pick17
    have hS570:=hS569.pick17
    have hS571:=hS570.pick17
    have hS572:=hS571.pick17
    have hS573:=hS572.pick16
    have hS574:=hS573.pick16
    have hS575:=hS574.pick16
    have hS576:=hS575.pick16
    have hS577:=hS576.pick16
    have hS578:=hS577.pick16
    have hS579:=hS578.pick17
    exact rF _ (L298 0 t195 t142 t141 t143 t144 t148 t152 t157 t161 t165 t169 t173 _ hv214 rfl _ A145 c146 A149 c150 A153 c154 (h156) A158 c159 A162 c163 A166 c167 A170 c171 _ hS579)
   refine sR 3 td98 ?_
   have hS581:=hS175.drop
   have hS582:=hS581.pick5
   have hS583:=hS582.pick5
   have hS584:=hS583.pick5
   have hS585:=hS584.pick5
   have hS586:=hS585.pick5
   have hS587:=hS586.pick5
   have hS588:=hS587.pick15
   have hS589:=hS588.pick15
   have hS590:=hS589.pick15
   have hS591:=hS590.pick15
   have hS592:=hS591.pick15
   have hS593:=hS592.pick15
   have hS594:=hS593.pick15
   have hS595:=hS594.pick15
   have hS596:=hS595.pick15
   have hS597:=hS596.pick15
   exact rF _ (J130 t144 t148 t152 t157 t161 t165 t169 t173 t143 t139 t140 t141 t142 ((Option.some.inj hp580).trans he178) _ A145 c146 A149 c150 A153 c154 (h156) A158 c159 A162 c163 A166 c167 A170 c171 _ hS597)
  have hS598:=hS89.pick8
  have hS599:=hS598.pick7
  have hS600:=hS599.pick7
  have hS601:=hS600.pick7
  have hS602:=hS601.pick7
  have hS603:=hS602.pick7
  have hS604:=hS603.pick7
  have hS605:=hS604.pick7
  have hS606:=hS605.pick8
  have hS607:=hS606.pick15
  have hS608:=hS607.pick15
  have hS609:=hS608.pick15
  have hS610:=hS609.pick15
  have hS611:=hS610.pick15
  have hS612:=hS611.pick15
  have hS613:=hS612.pick15
  have hS614:=hS613.pick16
  exact rF _ (L182 0 t44 a0_1c0vv_0m t45 a0_1c0vv_2m t43 t35 t36 t37 t38 t39 t40 t41 t42 _ hv91 rfl _ Q46 Q47 Q48 Q49 Q50 Q51 (Q52) Q53 Q54 Q55 Q56 Q57 Q58 Q59 Q60 _ hS614)

noncomputable def cd16 (p : List Nat) : Code := sub (bodyOf Try.f16) p
def weirlaw14_reachable.f (a0 : weirlaw14_Net) : Option (List ByteArray) :=
  (weirlaw14_Net__machine.f a0 >>= (fun (t5,t6,t7,t8,t9,t10) => (weirref14_Lay.f t5 t6 t7 t8 t9 t10 70000 >>= (fun (t45,t46,t47,t48,t49,t50,t51,t52,t53,t54,t55,t56,t57) => some (t45)))))
theorem weirlaw14_reachable.ok {a0 : weirlaw14_Net} {y0 : Option Addr} {y1 : Nat} {y2 : Option Addr} {y3 : Nat} {y4 : Option Addr} {y5 : Nat} {q0 : List ByteArray} (hp0 : weirlaw14_reachable.f a0 = some q0) (hS0 : St w0 Z (fs) w) (y6 : SlZ (repL (flat (encI .i64)) 1) 1 Z y0 y1 a0.Next) (y7 : SlZ (flat encB) 1 Z y2 y3 a0.End) (y8 : SlZ (flat (encI .i64)) 1 Z y4 y5 a0.Value) :
    Calls Try.prog 16 #[.agg #[.slice y0 a0.Next.length y1,.slice y2 a0.End.length y3,.slice y4 a0.Value.length y5,.int .i64 a0.Start]] w (fun e w' => ∃ (QA0 : Option Addr) (Qc0 : Nat),e = .returned (.slice QA0 q0.length Qc0) ∧ St w0 Z (xrow QA0 Qc0 9 1 (q0.flatMap encS)::fs) w'):=by
  refine calls_abs ?_; intro R hR
  unfold weirlaw14_reachable.f at hp0
  refine calls_of_runs (fn:=Try.f16) (c:=cd16 []) Try.func16 (by kernel_rfl) (al:=[.agg #[.slice y0 a0.Next.length y1,.slice y2 a0.End.length y3,.slice y4 a0.Value.length y5,.int .i64 a0.Start]]) rfl (n:=12) rfl ?_
  refine sR 2 [.inRegion (opsOf (cd16 [0])) [0,1],.code (cd16 [1])] ?_
  refine r_box (c:=(cd16 [0])) (i:=0) (d:=(some 1)) (ty:=0) (x:=(.tmp 0)) (v:=.agg #[.slice y0 a0.Next.length y1,.slice y2 a0.End.length y3,.slice y4 a0.Value.length y5,.int .i64 a0.Start]) (t:=26) (cs:=[.slice y0 a0.Next.length y1,.slice y2 a0.End.length y3,.slice y4 a0.Value.length y5,.int .i64 a0.Start]) hS0 (by kernel_rfl) (by kernel_rfl) (by kernel_rfl) (by kernel_rfl) ?_
  intro b1 w2 hS3
  refine sR 4 [iR (cd16 [1,0]) 0 8,.code (cd16 [1,1])] ?_
  refine rLa 26 (.tmp 1) (hS3.blk 0 rfl) ?_
  obtain ⟨⟨t5,t6,t7,t8,t9,t10⟩,hr23,hp24⟩:=bind_some' hp0
  try dsimp only at hp24
  refine rC (weirlaw14_Net__machine.ok hr23 hS3 y6 y7 y8) ?_
  rintro _ w34 ⟨Q11,Q12,Q13,Q14,Q15,Q16,Q17,Q18,Q19,Q20,Q21,Q22,rfl,hS35,hs36,hs37,hs38⟩
  refine ⟨_,rfl,?_⟩
  refine sR 3 [.inRegion (opsOf (cd16 [1,0])) [5,6,7],.code (cd16 [1,1])] ?_
  refine rA 32 (.agg #[.string (⟨#[]⟩ : ByteArray),.nilFunc,.nilFunc,.nilFunc]) [.string (⟨#[]⟩ : ByteArray),.nilFunc,.nilFunc,.nilFunc] hS35 ?_
  intro b39 w40 hS41
  refine rS 32 (.tmp 3) (.tmp 8) 0 (.agg #[.string t5,.func (.func 28) #[] #[.pointer (some ⟨Q11,0,none⟩),.pointer (some ⟨Q16,0,none⟩)],.func (.func 31) #[] #[.pointer (some ⟨Q16,0,none⟩),.pointer (some ⟨Q11,0,none⟩)],.func (.func 32) #[] #[.pointer (some ⟨Q11,0,none⟩),.pointer (some ⟨Q16,0,none⟩)]]) [.string t5,.func (.func 28) #[] #[.pointer (some ⟨Q11,0,none⟩),.pointer (some ⟨Q16,0,none⟩)],.func (.func 31) #[] #[.pointer (some ⟨Q16,0,none⟩),.pointer (some ⟨Q11,0,none⟩)],.func (.func 32) #[] #[.pointer (some ⟨Q11,0,none⟩),.pointer (some ⟨Q16,0,none⟩)]] [.string t5,.func (.func 28) #[] #[.pointer (some ⟨Q11,0,none⟩),.pointer (some ⟨Q16,0,none⟩)],.func (.func 31) #[] #[.pointer (some ⟨Q16,0,none⟩),.pointer (some ⟨Q11,0,none⟩)],.func (.func 32) #[] #[.pointer (some ⟨Q11,0,none⟩),.pointer (some ⟨Q16,0,none⟩)]] hS41 ?_
  intro w43 hS44
  refine sR 4 [iR (cd16 [1,1,0]) 0 4,.code (cd16 [1,1,1])] ?_
  refine rLa 32 (.tmp 3) (hS44.blk 0 rfl) ?_
  obtain ⟨⟨t45,t46,t47,t48,t49,t50,t51,t52,t53,t54,t55,t56,t57⟩,hr74,hp75⟩:=bind_some' hp24
  try dsimp only at hp75
  have hS87:=hS44.pick6
  have hS88:=hS87.pick6
  have hS89:=hS88.pick6
  have hS90:=hS89.pick6
  have hS91:=hS90.pick6
  have hS92:=hS91.pick6
  refine rC (weirref14_Lay.ok hr74 hS92 hs36 hs37 hs38) ?_
  rintro _ w93 ⟨Q58,Q59,Q60,Q61,Q62,Q63,Q64,Q65,Q66,Q67,Q68,Q69,Q70,Q71,Q72,Q73,rfl,hS94⟩
  refine ⟨_,rfl,?_⟩
  refine sR 3 [.code (cd16 [1,1,1])] ?_
  have hS95:=hS94.pick1
  have hS96:=hS95.drop
  have hS97:=hS96.pick1
  have hS98:=hS97.drop
  have hS99:=hS98.pick1
  have hS100:=hS99.drop
  have hS101:=hS100.pick1
  have hS102:=hS101.drop
  have hS103:=hS102.pick1
  have hS104:=hS103.drop
  have hS105:=hS104.pick1
  have hS106:=hS105.drop
  have hS107:=hS106.pick1
  have hS108:=hS107.drop
  have hS109:=hS108.pick1
  have hS110:=hS109.drop
  have hS111:=hS110.pick1
  have hS112:=hS111.drop
  have hS113:=hS112.pick1
  have hS114:=hS113.drop
  have hS115:=hS114.pick1
  have hS116:=hS115.drop
  have hS117:=hS116.pick1
  have hS118:=hS117.drop
  have hS119:=hS118.pick1
  have hS120:=hS119.drop
  have hS121:=hS120.pick1
  have hS122:=hS121.drop
  have hS123:=hS122.pick1
  have hS124:=hS123.drop
  refine rR (.slice Q58 t45.length Q59) Try.func16 ?_
  cases Option.some.inj hp75
  exact hR _ _ ⟨Q58,Q59,rfl,hS124⟩

end
end Go.Proofs.Ytfiamlhhhkiiaaa.K
