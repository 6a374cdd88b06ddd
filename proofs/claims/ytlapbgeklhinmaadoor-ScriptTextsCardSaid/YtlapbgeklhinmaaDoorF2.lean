/- The walk, part 2: each Go function as a plain Lean function, and that its call answers as that function says. No condition. -/
import Derived.Test.YtlapbgeklhinmaaDoorE
import Derived.Test.YtlapbgeklhinmaaDoorNG
import Derived.Test.YtlapbgeklhinmaaDoorNP
import Derived.Test.YtlapbgeklhinmaaDoorNV
import Derived.Test.YtlapbgeklhinmaaDoorNX
import Derived.Test.YtlapbgeklhinmaaDoorF1
set_option linter.unusedVariables false
set_option linter.unusedSimpArgs false
set_option maxRecDepth 100000
namespace Go.Proofs.YtlapbgeklhinmaaDoor.K
open Go Go.RowKit
noncomputable section
noncomputable def cd18 (p : List Nat) : Code:=sub (bodyOf Tryd.f18) p
noncomputable abbrev p18_0 : Code:=cd18 [1,0,0]
noncomputable abbrev p18_1 : Code:=cd18 [1,0,1]
noncomputable abbrev p18_2 : Code:=cd18 [1,1]
noncomputable abbrev p18_3 : Code:=cd18 [1,0,1,0,1]
noncomputable abbrev p18_4 : Code:=cd18 [1,1,1,0,1,0,0]
noncomputable abbrev p18_5 : Code:=cd18 [1,1,1,1]
noncomputable abbrev p18_6 : Code:=cd18 [1,1,1,1,1]
noncomputable abbrev p18_7 : Code:=cd18 [1,1,1,0,1,0,0,0,0]
noncomputable abbrev p18_8 : Code:=cd18 [1,1,1,0,1,0,0,0,1]
noncomputable abbrev p18_9 : Code:=cd18 [1,1,1,0,1,0,0,1]
noncomputable abbrev p18_10 : Code:=cd18 [1,1,1,0,1,0,0,1,0,0,1,0]
noncomputable abbrev p18_11 : Code:=cd18 [1,1,1,0,1,0,0,1,0,0,1,1]
noncomputable abbrev p18_12 : Code:=cd18 [1,1,1,0,1,0,0,1,1]
def weirref05_Place.l0 (a0 : ByteArray) (a1 : Int) (t22 : Int) (t23 : Int) (t24 : Int) : Option (Int × Int) :=
  (if (decide (t24 < a1)) = true then (if 0 ≤ t24 ∧ t24 < (a0.size : Int) then (if ((byt a0 t24) == 10) = true then (weirref05_Place.l0 a0 a1 (IntKind.i64.wrap (t22 + 1)) 1 (IntKind.i64.wrap (t24 + 1))) else (weirref05_Place.l0 a0 a1 (id t22) (IntKind.i64.wrap (t23 + 1)) (IntKind.i64.wrap (t24 + 1)))) else none) else some ((t22,t23)))
 partial_fixpoint
def weirref05_Place.f (a0 : ByteArray) (a1 : Int) : Option (Int × Int × Bool) :=
  (if (decide (a1 < 0)) = true then some ((0,0,false)) else (if (decide (a1 > (a0.size : Int))) = true then some ((0,0,false)) else (weirref05_Place.l0 a0 a1 1 1 0 >>= (fun (t14,t15) => some ((t14,t15,true))))))
set_option maxHeartbeats 16000000 in
theorem weirref05_Place.ok (a0 : ByteArray) (a1 : Int) {w0 : World} {Z : Zm} {fs : List XObj} {w : World} (hS0 : St w0 Z (fs) w) {q0 : Int} {q1 : Int} {q2 : Bool} (hp0 : weirref05_Place.f a0 a1 = some (q0,q1,q2)) :
    Calls Tryd.prog 18 #[.string a0,.int .i64 a1] w (fun e w' => e = .returned (.tuple #[.int .i64 q0,.int .i64 q1,.bool q2]) ∧ St w0 Z (fs) w'):=by
  refine calls_abs ?_; intro R hR
  unfold weirref05_Place.f at hp0
  refine calls_of_runs (fn:=Tryd.f18) (c:=cd18 []) Tryd.func18 (by kernel_rfl) (al:=[.string a0,.int .i64 a1]) rfl (n:=31) rfl ?_
  refine sx_split 11 (todo':=[.inRegion (opsOf p18_0) [2,3,4,5,6,7],.code p18_1,.code p18_2]) (us:=[(4,.int .i64 0),(5,.int .i64 0),(6,.bool false),(10,.int .i64 a1)]) (d:=11) (t:=(decide (a1 < 0))) (by kernel_rfl) (fun h1 => ?_) (fun h2 => ?_)
  ·skip
   have hp3:=ite_t hp0 h1
   refine sx_run 14 (todo':=[.code p18_3,.code p18_2]) (us:=[(12,.bool true),(13,undef),(14,undef),(15,undef),(16,undef),(17,.bool true),(4,.int .i64 0),(5,.int .i64 0),(6,.bool false)]) (by kernel_rfl) ?_
   refine runs_ret (fn:=Tryd.f18) (v:=.tuple #[.int .i64 0,.int .i64 0,.bool false]) Tryd.func18 (by kernel_rfl) ?_
   have hr4:=(Option.some.inj hp3)
   cases hr4
   exact hR _ _ ⟨rfl,hS0⟩
  ·skip
   have hp5:=ite_f hp0 h2
   refine sx_split 5 (todo':=[.inRegion (opsOf p18_0) [7],.code p18_1,.code p18_2]) (us:=[(12,.bool false),(13,.int .i64 a1),(14,.string a0),(15,.int .i64 (a0.size : Int))]) (d:=16) (t:=(decide (a1 > (a0.size : Int)))) (by kernel_rfl) (fun h6 => ?_) (fun h7 => ?_)
   ·skip
    have hp8:=ite_t hp5 h6
    refine sx_run 9 (todo':=[.code p18_3,.code p18_2]) (us:=[(17,.bool true),(4,.int .i64 0),(5,.int .i64 0),(6,.bool false)]) (by kernel_rfl) ?_
    refine runs_ret (fn:=Tryd.f18) (v:=.tuple #[.int .i64 0,.int .i64 0,.bool false]) Tryd.func18 (by kernel_rfl) ?_
    have hr9:=(Option.some.inj hp8)
    cases hr9
    exact hR _ _ ⟨rfl,hS0⟩
   ·skip
    have hp10:=ite_f hp5 h7
    refine sx_run 16 (todo':=[.code p18_4,.inLoop p18_4,.inBlock 0,.code p18_5]) (us:=[(17,.bool false),(7,.int .i64 1),(8,.int .i64 1),(9,.int .i64 0)]) (by kernel_rfl) ?_
    obtain ⟨v11,hv12,hp13⟩:=bind_some' hp10
    have J18 : ∀ (t14 : Int) (t15 : Int) (he20 : (t14,t15) = v11) (l19 : List Value) (w16 : World) (hS17 : St w0 Z (fs) w16),Runs Tryd.prog (fx 18) [.code p18_5] (fill (mk 33 [(7,.int .i64 t14),(8,.int .i64 t15)]) l19) w16 R:=by
     intro t14 t15 he20 l19 w16 hS17
     subst he20
     try dsimp only at hp13
     refine sx_run 8 (todo':=[.code p18_6]) (us:=[(31,.int .i64 t14),(32,.int .i64 t15),(4,.int .i64 t14),(5,.int .i64 t15),(6,.bool true)]) (by kernel_rfl) ?_
     refine runs_ret (fn:=Tryd.f18) (v:=.tuple #[.int .i64 t14,.int .i64 t15,.bool true]) Tryd.func18 (by kernel_rfl) ?_
     have hr21:=(Option.some.inj hp13)
     cases hr21
     exact hR _ _ ⟨rfl,hS17⟩
    have L33 : ∀ (t22 : Int) (t23 : Int) (t24 : Int) (e28 : (Int × Int)),weirref05_Place.l0 a0 a1 t22 t23 t24 = some e28 → e28 = v11 → ∀ (l27 : List Value) (w25 : World) (hS26 : St w0 Z (fs) w25),Runs Tryd.prog (fx 18) [.code p18_4,.inLoop p18_4,.inBlock 0,.code p18_5] (fill (mk 33 [(0,.string a0),(1,.int .i64 a1),(7,.int .i64 t22),(8,.int .i64 t23),(9,.int .i64 t24)]) l27) w25 R:=by
     refine weirref05_Place.l0.partial_correctness a0 a1 (fun t22 t23 t24 e28 => e28 = v11 → ∀ (l27 : List Value) (w25 : World) (hS26 : St w0 Z (fs) w25),Runs Tryd.prog (fx 18) [.code p18_4,.inLoop p18_4,.inBlock 0,.code p18_5] (fill (mk 33 [(0,.string a0),(1,.int .i64 a1),(7,.int .i64 t22),(8,.int .i64 t23),(9,.int .i64 t24)]) l27) w25 R) ?_
     intro rec32 ih31 t22 t23 t24 e28 hb30 he29 l27 w25 hS26
     refine sx_split 6 (todo':=[.inRegion (opsOf p18_7) [],.code p18_8,.code p18_9,.inLoop p18_4,.inBlock 0,.code p18_5]) (us:=[(18,.int .i64 t24),(19,.int .i64 a1)]) (d:=20) (t:=(decide (t24 < a1))) (by kernel_rfl) (fun h34 => ?_) (fun h35 => ?_)
     ·skip
      have hp36:=ite_t hb30 h34
      refine sx_run 15 (todo':=[.inRegion (opsOf p18_10) [2,3],.code p18_11,.inBlock 1,.code p18_12,.inLoop p18_4,.inBlock 0,.code p18_5]) (us:=[(23,.int .i64 t23),(24,.int .i64 (IntKind.i64.wrap (t23 + 1))),(8,.int .i64 (IntKind.i64.wrap (t23 + 1))),(25,.string a0),(26,.int .i64 t24)]) (by kernel_rfl) ?_
      obtain ⟨g37,hp38⟩:=ite_some hp36
      refine r_val (c:=p18_10) (i:=2) (d:=(some 27)) (ty:=5) (op:=.index 9 (.tmp 25) (.tmp 26)) (v:=.int .u8 (byt a0 t24)) (by kernel_rfl) (by kernel_rfl) (fun o ho _ => x_indexStr (kk:=.i64) (by kernel_rfl) (by kernel_rfl) (by kernel_rfl) g37.1 g37.2 ho) ?_
      refine sx_split 1 (todo':=[.inRegion (opsOf p18_10) [],.code p18_11,.inBlock 1,.code p18_12,.inLoop p18_4,.inBlock 0,.code p18_5]) (us:=[]) (d:=28) (t:=((byt a0 t24) == 10)) (by kernel_rfl) (fun h39 => ?_) (fun h40 => ?_)
      ·skip
       have hp41:=ite_t hp38 h39
       refine sx_run 17 (todo':=[.inLoop p18_4,.inBlock 0,.code p18_5]) (us:=[(29,.int .i64 t22),(30,.int .i64 (IntKind.i64.wrap (t22 + 1))),(7,.int .i64 (IntKind.i64.wrap (t22 + 1))),(8,.int .i64 1),(21,.int .i64 t24),(22,.int .i64 (IntKind.i64.wrap (t24 + 1))),(9,.int .i64 (IntKind.i64.wrap (t24 + 1)))]) (by kernel_rfl) ?_
       refine sx_run 1 (todo':=[.code p18_4,.inLoop p18_4,.inBlock 0,.code p18_5]) (us:=[]) (by kernel_rfl) ?_
       refine Runs.fill (m:=(mk 33 [(0,.string a0),(1,.int .i64 a1),(7,.int .i64 (IntKind.i64.wrap (t22 + 1))),(8,.int .i64 1),(9,.int .i64 (IntKind.i64.wrap (t24 + 1)))])) (by kernel_rfl) ?_
       exact ih31 (IntKind.i64.wrap (t22 + 1)) 1 (IntKind.i64.wrap (t24 + 1)) _ hp41 he29 _ _ hS26
      ·skip
       have hp42:=ite_f hp38 h40
       refine sx_run 9 (todo':=[.inLoop p18_4,.inBlock 0,.code p18_5]) (us:=[(21,.int .i64 t24),(22,.int .i64 (IntKind.i64.wrap (t24 + 1))),(9,.int .i64 (IntKind.i64.wrap (t24 + 1)))]) (by kernel_rfl) ?_
       refine sx_run 1 (todo':=[.code p18_4,.inLoop p18_4,.inBlock 0,.code p18_5]) (us:=[]) (by kernel_rfl) ?_
       refine Runs.fill (m:=(mk 33 [(0,.string a0),(1,.int .i64 a1),(7,.int .i64 t22),(8,.int .i64 (IntKind.i64.wrap (t23 + 1))),(9,.int .i64 (IntKind.i64.wrap (t24 + 1)))])) (by kernel_rfl) ?_
       exact ih31 (id t22) (IntKind.i64.wrap (t23 + 1)) (IntKind.i64.wrap (t24 + 1)) _ hp42 he29 _ _ hS26
     ·skip
      have hp43:=ite_f hb30 h35
      refine sx_run 3 (todo':=[.code p18_5]) (us:=[]) (by kernel_rfl) ?_
      refine Runs.fill (m:=(mk 33 [(7,.int .i64 t22),(8,.int .i64 t23)])) (by kernel_rfl) ?_
      exact J18 t22 t23 ((Option.some.inj hp43).trans he29) _ _ hS26
    refine Runs.fill (m:=(mk 33 [(0,.string a0),(1,.int .i64 a1),(7,.int .i64 1),(8,.int .i64 1),(9,.int .i64 0)])) (by kernel_rfl) ?_
    exact L33 1 1 0 _ hv12 rfl _ _ hS0

noncomputable def cd7 (p : List Nat) : Code:=sub (bodyOf Tryd.f7) p
noncomputable abbrev p7_0 : Code:=cd7 [0]
noncomputable abbrev p7_1 : Code:=cd7 [1]
noncomputable abbrev p7_2 : Code:=cd7 [1,0,0]
noncomputable abbrev p7_3 : Code:=cd7 [1,0,1]
noncomputable abbrev p7_4 : Code:=cd7 [1,1]
noncomputable abbrev p7_5 : Code:=cd7 [1,0,1,0,0]
noncomputable abbrev p7_6 : Code:=cd7 [1,0,1,0,1]
noncomputable abbrev p7_7 : Code:=cd7 [1,1,1,0,1,0,0]
noncomputable abbrev p7_8 : Code:=cd7 [1,1,1,1]
noncomputable abbrev p7_9 : Code:=cd7 [1,1,1,1,0]
noncomputable abbrev p7_10 : Code:=cd7 [1,1,1,1,1]
noncomputable abbrev p7_11 : Code:=cd7 [1,1,1,0,1,0,0,0,0]
noncomputable abbrev p7_12 : Code:=cd7 [1,1,1,0,1,0,0,0,1]
noncomputable abbrev p7_13 : Code:=cd7 [1,1,1,0,1,0,0,1]
noncomputable abbrev p7_14 : Code:=cd7 [1,1,1,0,1,0,0,1,0,0,0]
noncomputable abbrev p7_15 : Code:=cd7 [1,1,1,0,1,0,0,1,0,0,1]
noncomputable abbrev p7_16 : Code:=cd7 [1,1,1,0,1,0,0,1,0,1]
noncomputable abbrev p7_17 : Code:=cd7 [1,1,1,0,1,0,0,1,0,1,1,0,0,0]
noncomputable abbrev p7_18 : Code:=cd7 [1,1,1,0,1,0,0,1,0,1,1,1]
noncomputable abbrev p7_19 : Code:=cd7 [1,1,1,0,1,0,0,1,0,1,1,1,0]
noncomputable abbrev p7_20 : Code:=cd7 [1,1,1,0,1,0,0,1,0,1,1,1,1]
noncomputable abbrev p7_21 : Code:=cd7 [1,1,1,0,1,0,0,1,0,1,1,1,1,0,0]
noncomputable abbrev p7_22 : Code:=cd7 [1,1,1,0,1,0,0,1,0,1,1,1,1,0,1]
noncomputable abbrev p7_23 : Code:=cd7 [1,1,1,0,1,0,0,1,0,1,1,1,1,1]
noncomputable abbrev p7_24 : Code:=cd7 [1,1,1,0,1,0,0,1,0,1,1,1,1,0,1,0,0]
noncomputable abbrev p7_25 : Code:=cd7 [1,1,1,0,1,0,0,1,0,1,1,1,1,0,1,0,1]
noncomputable abbrev p7_26 : Code:=cd7 [1,1,1,0,1,0,0,1,0,1,1,1,1,0,1,0,1,0]
noncomputable abbrev p7_27 : Code:=cd7 [1,1,1,0,1,0,0,1,0,1,1,1,1,0,1,0,1,1]
noncomputable abbrev p7_28 : Code:=cd7 [1,1,1,0,1,0,0,1,0,1,1,1,1,1,0]
noncomputable abbrev p7_29 : Code:=cd7 [1,1,1,0,1,0,0,1,0,1,1,1,1,1,1]
noncomputable abbrev p7_30 : Code:=cd7 [1,1,1,0,1,0,0,1,0,1,1,0,0,0,0,0]
noncomputable abbrev p7_31 : Code:=cd7 [1,1,1,0,1,0,0,1,0,1,1,0,0,0,0,1]
noncomputable abbrev p7_32 : Code:=cd7 [1,1,1,0,1,0,0,1,0,1,1,0,0,0,1]
def weirref15_Parse.l1 (a0 : ByteArray) (t122 : Int) : Option Int :=
  (if (decide (t122 < (a0.size : Int))) = true then (if 0 ≤ t122 ∧ t122 < (a0.size : Int) then (weirref15_blank.f (byt a0 t122) >>= (fun t137 => (if (!t137) = true then (weirref15_Parse.l1 a0 (IntKind.i64.wrap (t122 + 1))) else some (t122)))) else none) else some (t122))
 partial_fixpoint
def weirref15_Parse.l0 (a0 : ByteArray) (t33 : List api_Pick) (t37 : Int) : Option (Sum (List api_Pick) ((List api_Pick) × weirref05_Fault)) :=
  (if (decide (t37 < (a0.size : Int))) = true then (if 0 ≤ t37 ∧ t37 < (a0.size : Int) then (weirref15_blank.f (byt a0 t37) >>= (fun t53 => (if t53 = true then (weirref15_Parse.l0 a0 (id t33) (IntKind.i64.wrap (t37 + 1))) else (weirref15_Parse.l1 a0 t37 >>= (fun t62 => (if 0 ≤ t37 ∧ t37 ≤ t62 ∧ t62 ≤ (a0.size : Int) then (weirref15_word.f (a0.extract t37.toNat t62.toNat) >>= (fun (t70,t71) => (if (!t71) = true then (weirref05_Place.f a0 t37 >>= (fun (t85,t86,t87) => some (.inr (([],(⟨t85,t86,150⟩ : weirref05_Fault)))))) else (if (t33.length + ([t70] : List api_Pick).length) * 24 ≤ 140737488355328 then (weirref15_Parse.l0 a0 (t33 ++ ([t70] : List api_Pick)) t62) else none)))) else none)))))) else none) else some (.inl t33))
 partial_fixpoint
def weirref15_Parse.f (a0 : ByteArray) : Option ((List api_Pick) × weirref05_Fault) :=
  (if (decide ((a0.size : Int) > 1048576)) = true then some (([],(⟨(-1),0,1⟩ : weirref05_Fault))) else (weirref15_Parse.l0 a0 [] 0 >>= (fun | .inl t19 => some ((t19,(⟨0,0,0⟩ : weirref05_Fault))) | .inr e => some e)))
set_option maxHeartbeats 16000000 in
theorem weirref15_Parse.ok (a0 : ByteArray) {w0 : World} {Z : Zm} {fs : List XObj} {w : World} (hS0 : St w0 Z (fs) w) {q0 : List api_Pick} {q1 : weirref05_Fault} (hp0 : weirref15_Parse.f a0 = some (q0,q1)) :
    Calls Tryd.prog 7 #[.string a0] w (fun e w' => ∃ (QA0 : Option Addr) (Qc0 : Nat),e = .returned (.tuple #[.slice QA0 q0.length Qc0,.agg (enc_weirref05_Fault q1).toArray]) ∧ St w0 Z (xrow QA0 Qc0 24 3 (q0.flatMap enc_api_Pick)::fs) w'):=by
  refine calls_abs ?_; intro R hR
  unfold weirref15_Parse.f at hp0
  refine calls_of_runs (fn:=Tryd.f7) (c:=cd7 []) Tryd.func7 (by kernel_rfl) (al:=[.string a0]) rfl (n:=66) rfl ?_
  refine sx_run 3 (todo':=[.inRegion (opsOf p7_0) [1],.code p7_1]) (us:=[(2,.slice none 0 0)]) (by kernel_rfl) ?_
  refine r_alloc (c:=p7_0) (i:=1) (d:=(some 3)) (ty:=0) (z:=.agg (enc_weirref05_Fault (⟨0,0,0⟩ : weirref05_Fault)).toArray) (t:=35) (cs:=enc_weirref05_Fault (⟨0,0,0⟩ : weirref05_Fault)) hS0 (by kernel_rfl) (by kernel_rfl) (by kernel_rfl) (by kernel_rfl) ?_
  intro b1 w2 hS3
  refine sx_split 7 (todo':=[.inRegion (opsOf p7_2) [],.code p7_3,.code p7_4]) (us:=[(12,.string a0),(13,.int .i64 (a0.size : Int))]) (d:=14) (t:=(decide ((a0.size : Int) > 1048576))) (by kernel_rfl) (fun h5 => ?_) (fun h6 => ?_)
  ·skip
   have hp7:=ite_t hp0 h5
   refine sx_run 6 (todo':=[.inRegion (opsOf p7_5) [2],.code p7_6,.code p7_4]) (us:=[(15,.agg (enc_weirref05_Fault (⟨(-1),0,1⟩ : weirref05_Fault)).toArray),(2,.slice none 0 0)]) (by kernel_rfl) ?_
   refine r_store (c:=p7_5) (i:=2) (d:=none) (ty:=0) (t:=35) (x:=(.tmp 3)) (y:=(.tmp 15)) (b:=b1) (o:=0) (e:=35) (cs:=enc_weirref05_Fault (⟨0,0,0⟩ : weirref05_Fault)) (v:=.agg (enc_weirref05_Fault (⟨(-1),0,1⟩ : weirref05_Fault)).toArray) (vs:=enc_weirref05_Fault (⟨(-1),0,1⟩ : weirref05_Fault)) (cs':=enc_weirref05_Fault (⟨(-1),0,1⟩ : weirref05_Fault)) hS3 (by kernel_rfl) (by kernel_rfl) (by kernel_rfl) (by kernel_rfl) (by kernel_rfl) (by kernel_rfl) (one_weirref05_Fault _) (Nat.le_of_ble_eq_true (by kernel_rfl)) (by kernel_rfl) ?_
   intro w8 hS9
   refine sx_run 1 (todo':=[.code p7_6,.code p7_4]) (us:=[]) (by kernel_rfl) ?_
   have hS11:=hS9.nilrow none 24 3
   have hS12:=hS11.pick1
   have hS13:=hS12.drop
   refine runs_ret (fn:=Tryd.f7) (v:=.tuple #[.slice none 0 0,.agg (enc_weirref05_Fault (⟨(-1),0,1⟩ : weirref05_Fault)).toArray]) Tryd.func7 (resl_run (fn:=Tryd.f7) (by kernel_rfl) (.tmp (t:=2) (by kernel_rfl) (.cell (t:=3) (ty:=35) (by kernel_rfl) (loads_agg (hS9.blk 0 rfl) (by kernel_rfl) (by kernel_rfl)) .nil))) ?_
   have hr14:=(Option.some.inj hp7)
   cases hr14
   exact hR _ _ ⟨none,0,rfl,hS13⟩
  ·skip
   have hp15:=ite_f hp0 h6
   refine sx_run 14 (todo':=[.code p7_7,.inLoop p7_7,.inBlock 0,.code p7_8]) (us:=[(4,.slice none 0 0),(5,.int .i64 0)]) (by kernel_rfl) ?_
   obtain ⟨v16,hv17,hp18⟩:=bind_some' hp15
   have hq25 : ∀ x,Sum.inr x = v16 → x = (q0,q1):=by intro x hx; subst hx; simpa using hp18
   have J26 : ∀ (t19 : List api_Pick) (he28 : Sum.inl t19 = v16) (l27 : List Value) (A20 : Option Addr) (c21 : Nat) (w23 : World) (hS24 : St w0 Z (xblk b1 35 (enc_weirref05_Fault (⟨0,0,0⟩ : weirref05_Fault))::xrow A20 c21 24 3 (t19.flatMap enc_api_Pick)::fs) w23),Runs Tryd.prog (fx 7) [.code p7_8] (fill (mk 67 [(3,.pointer (some ⟨b1,0,none⟩)),(4,.slice A20 t19.length c21)]) l27) w23 R:=by
    intro t19 he28 l27 A20 c21 w23 hS24
    subst he28
    try dsimp only at hp18
    refine sx_run 5 (todo':=[.inRegion (opsOf p7_9) [3],.code p7_10]) (us:=[(65,.slice A20 t19.length c21),(66,.agg (enc_weirref05_Fault (⟨0,0,0⟩ : weirref05_Fault)).toArray),(2,.slice A20 t19.length c21)]) (by kernel_rfl) ?_
    refine r_store (c:=p7_9) (i:=3) (d:=none) (ty:=0) (t:=35) (x:=(.tmp 3)) (y:=(.tmp 66)) (b:=b1) (o:=0) (e:=35) (cs:=enc_weirref05_Fault (⟨0,0,0⟩ : weirref05_Fault)) (v:=.agg (enc_weirref05_Fault (⟨0,0,0⟩ : weirref05_Fault)).toArray) (vs:=enc_weirref05_Fault (⟨0,0,0⟩ : weirref05_Fault)) (cs':=enc_weirref05_Fault (⟨0,0,0⟩ : weirref05_Fault)) hS24 (by kernel_rfl) (by kernel_rfl) (by kernel_rfl) (by kernel_rfl) (by kernel_rfl) (by kernel_rfl) (one_weirref05_Fault _) (Nat.le_of_ble_eq_true (by kernel_rfl)) (by kernel_rfl) ?_
    intro w29 hS30
    refine sx_run 1 (todo':=[.code p7_10]) (us:=[]) (by kernel_rfl) ?_
    have hS31:=hS30.drop
    refine runs_ret (fn:=Tryd.f7) (v:=.tuple #[.slice A20 t19.length c21,.agg (enc_weirref05_Fault (⟨0,0,0⟩ : weirref05_Fault)).toArray]) Tryd.func7 (resl_run (fn:=Tryd.f7) (by kernel_rfl) (.tmp (t:=2) (by kernel_rfl) (.cell (t:=3) (ty:=35) (by kernel_rfl) (loads_agg (hS30.blk 0 rfl) (by kernel_rfl) (by kernel_rfl)) .nil))) ?_
    have hr32:=(Option.some.inj hp18)
    cases hr32
    exact hR _ _ ⟨A20,c21,rfl,hS31⟩
   have L46 : ∀ (t33 : List api_Pick) (t37 : Int) (e41 : Sum (List api_Pick) ((List api_Pick) × weirref05_Fault)),weirref15_Parse.l0 a0 t33 t37 = some e41 → e41 = v16 → ∀ (l40 : List Value) (A34 : Option Addr) (c35 : Nat) (w38 : World) (hS39 : St w0 Z (xblk b1 35 (enc_weirref05_Fault (⟨0,0,0⟩ : weirref05_Fault))::xrow A34 c35 24 3 (t33.flatMap enc_api_Pick)::fs) w38),Runs Tryd.prog (fx 7) [.code p7_7,.inLoop p7_7,.inBlock 0,.code p7_8] (fill (mk 67 [(0,.string a0),(3,.pointer (some ⟨b1,0,none⟩)),(4,.slice A34 t33.length c35),(5,.int .i64 t37)]) l40) w38 R:=by
    refine weirref15_Parse.l0.partial_correctness a0 (fun t33 t37 e41 => e41 = v16 → ∀ (l40 : List Value) (A34 : Option Addr) (c35 : Nat) (w38 : World) (hS39 : St w0 Z (xblk b1 35 (enc_weirref05_Fault (⟨0,0,0⟩ : weirref05_Fault))::xrow A34 c35 24 3 (t33.flatMap enc_api_Pick)::fs) w38),Runs Tryd.prog (fx 7) [.code p7_7,.inLoop p7_7,.inBlock 0,.code p7_8] (fill (mk 67 [(0,.string a0),(3,.pointer (some ⟨b1,0,none⟩)),(4,.slice A34 t33.length c35),(5,.int .i64 t37)]) l40) w38 R) ?_
    intro rec45 ih44 t33 t37 e41 hb43 he42 l40 A34 c35 w38 hS39
    have hq47 : ∀ x,Sum.inr x = e41 → x = (q0,q1):=fun x hx => hq25 x (hx.trans he42)
    refine sx_split 7 (todo':=[.inRegion (opsOf p7_11) [],.code p7_12,.code p7_13,.inLoop p7_7,.inBlock 0,.code p7_8]) (us:=[(16,.int .i64 t37),(17,.string a0),(18,.int .i64 (a0.size : Int))]) (d:=19) (t:=(decide (t37 < (a0.size : Int)))) (by kernel_rfl) (fun h48 => ?_) (fun h49 => ?_)
    ·skip
     have hp50:=ite_t hb43 h48
     refine sx_run 9 (todo':=[.inRegion (opsOf p7_14) [2,3],.code p7_15,.code p7_16,.inBlock 1,.inLoop p7_7,.inBlock 0,.code p7_8]) (us:=[(20,.string a0),(21,.int .i64 t37)]) (by kernel_rfl) ?_
     obtain ⟨g51,hp52⟩:=ite_some hp50
     refine r_val (c:=p7_14) (i:=2) (d:=(some 22)) (ty:=5) (op:=.index 9 (.tmp 20) (.tmp 21)) (v:=.int .u8 (byt a0 t37)) (by kernel_rfl) (by kernel_rfl) (fun o ho _ => x_indexStr (kk:=.i64) (by kernel_rfl) (by kernel_rfl) (by kernel_rfl) g51.1 g51.2 ho) ?_
     obtain ⟨t53,hr54,hp55⟩:=bind_some' hp52
     refine r_call1 (c:=p7_14) (i:=3) (d:=(some 23)) (g:=16) (args:=#[.int .u8 (byt a0 t37)]) (by kernel_rfl) (by kernel_rfl) (by kernel_rfl) (by kernel_rfl) (weirref15_blank.ok (byt a0 t37) hS39 hr54) ?_
     rintro _ w56 ⟨rfl,hS57⟩
     refine ⟨.bool t53,rfl,?_⟩
     refine sx_run 1 (todo':=[.code p7_15,.code p7_16,.inBlock 1,.inLoop p7_7,.inBlock 0,.code p7_8]) (us:=[]) (by kernel_rfl) ?_
     cases t53
     ·skip
      have hp58:=ite_f hp55 rfl
      refine sx_run 10 (todo':=[.code p7_17,.inLoop p7_17,.inBlock 2,.code p7_18,.inBlock 1,.inLoop p7_7,.inBlock 0,.code p7_8]) (us:=[(26,.int .i64 t37),(6,.int .i64 t37)]) (by kernel_rfl) ?_
      obtain ⟨v59,hv60,hp61⟩:=bind_some' hp58
      have J65 : ∀ (t62 : Int) (he67 : t62 = v59) (l66 : List Value) (w63 : World) (hS64 : St w0 Z (xblk b1 35 (enc_weirref05_Fault (⟨0,0,0⟩ : weirref05_Fault))::xrow A34 c35 24 3 (t33.flatMap enc_api_Pick)::fs) w63),Runs Tryd.prog (fx 7) [.code p7_18,.inBlock 1,.inLoop p7_7,.inBlock 0,.code p7_8] (fill (mk 67 [(0,.string a0),(3,.pointer (some ⟨b1,0,none⟩)),(4,.slice A34 t33.length c35),(5,.int .i64 t37),(6,.int .i64 t62)]) l66) w63 R:=by
       intro t62 he67 l66 w63 hS64
       subst he67
       try dsimp only at hp61
       refine sx_run 5 (todo':=[.inRegion (opsOf p7_19) [3,4,5,6,7,8,9,10],.code p7_20,.inBlock 1,.inLoop p7_7,.inBlock 0,.code p7_8]) (us:=[(41,.string a0),(42,.int .i64 t37),(43,.int .i64 t62)]) (by kernel_rfl) ?_
       obtain ⟨g68,hp69⟩:=ite_some hp61
       refine r_val (c:=p7_19) (i:=3) (d:=(some 44)) (ty:=9) (op:=.slice 9 (.tmp 41) (some (.tmp 42)) (some (.tmp 43)) none) (v:=.string (a0.extract t37.toNat t62.toNat)) (by kernel_rfl) (by kernel_rfl) (fun o ho _ => x_cutStr_ss (k:=.i64) (k':=.i64) (by kernel_rfl) (by kernel_rfl) (by kernel_rfl) (by kernel_rfl) g68 ho) ?_
       obtain ⟨⟨t70,t71⟩,hr72,hp73⟩:=bind_some' hp69
       try dsimp only at hp73
       refine r_call1 (c:=p7_19) (i:=4) (d:=(some 45)) (g:=17) (args:=#[.string (a0.extract t37.toNat t62.toNat)]) (by kernel_rfl) (by kernel_rfl) (by kernel_rfl) (by kernel_rfl) (weirref15_word.ok (a0.extract t37.toNat t62.toNat) hS64 hr72) ?_
       rintro _ w74 ⟨rfl,hS75⟩
       refine ⟨.tuple #[.agg (enc_api_Pick t70).toArray,.bool t71],rfl,?_⟩
       refine sx_run 3 (todo':=[.inRegion (opsOf p7_19) [8,9,10],.code p7_20,.inBlock 1,.inLoop p7_7,.inBlock 0,.code p7_8]) (us:=[(40,.tuple #[.agg (enc_api_Pick t70).toArray,.bool t71]),(46,.agg (enc_api_Pick t70).toArray),(47,.bool t71)]) (by kernel_rfl) ?_
       refine r_alloc (c:=p7_19) (i:=8) (d:=(some 7)) (ty:=0) (z:=.agg (enc_api_Pick (⟨0,0,0⟩ : api_Pick)).toArray) (t:=24) (cs:=enc_api_Pick (⟨0,0,0⟩ : api_Pick)) hS75 (by kernel_rfl) (by kernel_rfl) (by kernel_rfl) (by kernel_rfl) ?_
       intro b76 w77 hS78
       refine r_store (c:=p7_19) (i:=9) (d:=none) (ty:=0) (t:=24) (x:=(.tmp 7)) (y:=(.tmp 46)) (b:=b76) (o:=0) (e:=24) (cs:=enc_api_Pick (⟨0,0,0⟩ : api_Pick)) (v:=.agg (enc_api_Pick t70).toArray) (vs:=enc_api_Pick t70) (cs':=enc_api_Pick t70) hS78 (by kernel_rfl) (by kernel_rfl) (by kernel_rfl) (by kernel_rfl) (by kernel_rfl) (by kernel_rfl) (one_api_Pick _) (Nat.le_of_ble_eq_true (by kernel_rfl)) (by kernel_rfl) ?_
       intro w80 hS81
       refine sx_split 7 (todo':=[.inRegion (opsOf p7_21) [],.code p7_22,.code p7_23,.inBlock 1,.inLoop p7_7,.inBlock 0,.code p7_8]) (us:=[(8,.bool t71),(48,.bool t71)]) (d:=49) (t:=(!t71)) (by kernel_rfl) (fun h82 => ?_) (fun h83 => ?_)
       ·skip
        have hp84:=ite_t hp73 h82
        refine sx_run 6 (todo':=[.inRegion (opsOf p7_24) [2,3,4,5,6,7,8,9],.code p7_25,.code p7_23,.inBlock 1,.inLoop p7_7,.inBlock 0,.code p7_8]) (us:=[(51,.string a0),(52,.int .i64 t37)]) (by kernel_rfl) ?_
        obtain ⟨⟨t85,t86,t87⟩,hr88,hp89⟩:=bind_some' hp84
        try dsimp only at hp89
        refine r_call1 (c:=p7_24) (i:=2) (d:=(some 53)) (g:=18) (args:=#[.string a0,.int .i64 t37]) (by kernel_rfl) (by kernel_rfl) (by kernel_rfl) (by kernel_rfl) (weirref05_Place.ok a0 t37 hS81 hr88) ?_
        rintro _ w90 ⟨rfl,hS91⟩
        refine ⟨.tuple #[.int .i64 t85,.int .i64 t86,.bool t87],rfl,?_⟩
        refine sx_run 14 (todo':=[.inRegion (opsOf p7_26) [4],.code p7_27,.code p7_23,.inBlock 1,.inLoop p7_7,.inBlock 0,.code p7_8]) (us:=[(50,.tuple #[.int .i64 t85,.int .i64 t86,.bool t87]),(54,.int .i64 t85),(55,.int .i64 t86),(56,.bool t87),(9,.int .i64 t85),(10,.int .i64 t86),(11,.bool t87),(57,.int .i64 t85),(58,.int .i64 t86),(59,.agg (enc_weirref05_Fault (⟨t85,t86,150⟩ : weirref05_Fault)).toArray),(2,.slice none 0 0)]) (by kernel_rfl) ?_
        have hS92:=hS91.pick1
        refine r_store (c:=p7_26) (i:=4) (d:=none) (ty:=0) (t:=35) (x:=(.tmp 3)) (y:=(.tmp 59)) (b:=b1) (o:=0) (e:=35) (cs:=enc_weirref05_Fault (⟨0,0,0⟩ : weirref05_Fault)) (v:=.agg (enc_weirref05_Fault (⟨t85,t86,150⟩ : weirref05_Fault)).toArray) (vs:=enc_weirref05_Fault (⟨t85,t86,150⟩ : weirref05_Fault)) (cs':=enc_weirref05_Fault (⟨t85,t86,150⟩ : weirref05_Fault)) hS92 (by kernel_rfl) (by kernel_rfl) (by kernel_rfl) (by kernel_rfl) (by kernel_rfl) (by kernel_rfl) (one_weirref05_Fault _) (Nat.le_of_ble_eq_true (by kernel_rfl)) (by kernel_rfl) ?_
        intro w93 hS94
        refine sx_run 1 (todo':=[.code p7_27,.code p7_23,.inBlock 1,.inLoop p7_7,.inBlock 0,.code p7_8]) (us:=[]) (by kernel_rfl) ?_
        refine r_isret (c:=p7_27) (by kernel_rfl) ?_
        have hS96:=hS94.nilrow none 24 3
        have hS97:=hS96.pick1
        have hS98:=hS97.drop
        have hS99:=hS98.pick1
        have hS100:=hS99.drop
        have hS101:=hS100.pick1
        have hS102:=hS101.drop
        refine runs_ret (fn:=Tryd.f7) (v:=.tuple #[.slice none 0 0,.agg (enc_weirref05_Fault (⟨t85,t86,150⟩ : weirref05_Fault)).toArray]) Tryd.func7 (resl_run (fn:=Tryd.f7) (by kernel_rfl) (.tmp (t:=2) (by kernel_rfl) (.cell (t:=3) (ty:=35) (by kernel_rfl) (loads_agg (hS94.blk 0 rfl) (by kernel_rfl) (by kernel_rfl)) .nil))) ?_
        have hr103:=(hq47 _ (Option.some.inj hp89))
        cases hr103
        exact hR _ _ ⟨none,0,rfl,hS102⟩
       ·skip
        have hp104:=ite_f hp73 h83
        refine sx_run 6 (todo':=[.inRegion (opsOf p7_28) [1,2,3,4],.code p7_29,.inBlock 1,.inLoop p7_7,.inBlock 0,.code p7_8]) (us:=[(60,.slice A34 t33.length c35)]) (by kernel_rfl) ?_
        refine r_load (c:=p7_28) (i:=1) (d:=(some 61)) (ty:=24) (t:=24) (x:=(.tmp 7)) (p:=⟨b76,0,none⟩) (v:=.agg (enc_api_Pick t70).toArray) (by kernel_rfl) (by kernel_rfl) (by kernel_rfl) (loads_agg (hS81.blk 0 rfl) (by kernel_rfl) (by kernel_rfl)) ?_
        refine r_lit (c:=p7_28) (i:=2) (d:=(some 62)) (ty:=22) (t:=22) (e:=24) (sz:=3) (n:=1) (parts:=#[(0,(.tmp 61))]) (vs:=[(0,.agg (enc_api_Pick t70).toArray)]) (z:=zeroOf Tryd.prog 24) (cs':=([t70] : List api_Pick).flatMap enc_api_Pick) hS81 (by kernel_rfl) (by kernel_rfl) (by kernel_rfl) (by kernel_rfl) (by kernel_rfl) (by decide) (by decide) (by kernel_rfl) rfl (Parts.cons (c:=enc_api_Pick t70) (by kernel_rfl) (len_api_Pick _) Parts.nil) rfl ?_
        intro b106 w107 hS108
        have hS109:=hS108.pick3
        obtain ⟨g110,hp111⟩:=ite_some hp104
        refine r_append (c:=p7_28) (i:=3) (d:=(some 63)) (ty:=22) (enc:=enc_api_Pick) (e:=24) (u:=24) (t:=22) (t2:=22) (sz:=3) (cp:=c35) (A:=A34) (bytes:=24) (xs:=t33) (ys:=([t70] : List api_Pick)) (s:=(.tmp 60)) (x:=(.tmp 62)) (xv:=.slice (some ⟨b106,0,none⟩) ([t70] : List api_Pick).length 1) (info:=infoOf Tryd.prog 24) (z:=zeroOf Tryd.prog 24) (ycs:=([t70] : List api_Pick).flatMap enc_api_Pick) hS109 (by kernel_rfl) (by kernel_rfl) (by kernel_rfl) (by kernel_rfl) (by kernel_rfl) (.inl (by kernel_rfl)) (by kernel_rfl) (by kernel_rfl) (by kernel_rfl) (by kernel_rfl) (by kernel_rfl) (by omega) len_api_Pick one_api_Pick (src_row (hS109.row 1 rfl) (by omega) len_api_Pick) rfl g110 (by omega) ?_
        intro A112 c113 w114 hS115
        refine sx_run 7 (todo':=[.inLoop p7_7,.inBlock 0,.code p7_8]) (us:=[(4,.slice A112 (t33 ++ ([t70] : List api_Pick)).length c113),(64,.int .i64 t62),(5,.int .i64 t62)]) (by kernel_rfl) ?_
        have hS117:=hS115.pick1
        have hS118:=hS117.drop
        have hS119:=hS118.pick1
        have hS120:=hS119.drop
        have hS121:=hS120.pick1
        refine sx_run 1 (todo':=[.code p7_7,.inLoop p7_7,.inBlock 0,.code p7_8]) (us:=[]) (by kernel_rfl) ?_
        refine Runs.fill (m:=(mk 67 [(0,.string a0),(3,.pointer (some ⟨b1,0,none⟩)),(4,.slice A112 (t33 ++ ([t70] : List api_Pick)).length c113),(5,.int .i64 t62)])) (by kernel_rfl) ?_
        exact ih44 (t33 ++ ([t70] : List api_Pick)) t62 _ hp111 he42 _ A112 c113 _ hS121
      have L131 : ∀ (t122 : Int) (e126 : Int),weirref15_Parse.l1 a0 t122 = some e126 → e126 = v59 → ∀ (l125 : List Value) (w123 : World) (hS124 : St w0 Z (xblk b1 35 (enc_weirref05_Fault (⟨0,0,0⟩ : weirref05_Fault))::xrow A34 c35 24 3 (t33.flatMap enc_api_Pick)::fs) w123),Runs Tryd.prog (fx 7) [.code p7_17,.inLoop p7_17,.inBlock 2,.code p7_18,.inBlock 1,.inLoop p7_7,.inBlock 0,.code p7_8] (fill (mk 67 [(0,.string a0),(3,.pointer (some ⟨b1,0,none⟩)),(4,.slice A34 t33.length c35),(5,.int .i64 t37),(6,.int .i64 t122)]) l125) w123 R:=by
       refine weirref15_Parse.l1.partial_correctness a0 (fun t122 e126 => e126 = v59 → ∀ (l125 : List Value) (w123 : World) (hS124 : St w0 Z (xblk b1 35 (enc_weirref05_Fault (⟨0,0,0⟩ : weirref05_Fault))::xrow A34 c35 24 3 (t33.flatMap enc_api_Pick)::fs) w123),Runs Tryd.prog (fx 7) [.code p7_17,.inLoop p7_17,.inBlock 2,.code p7_18,.inBlock 1,.inLoop p7_7,.inBlock 0,.code p7_8] (fill (mk 67 [(0,.string a0),(3,.pointer (some ⟨b1,0,none⟩)),(4,.slice A34 t33.length c35),(5,.int .i64 t37),(6,.int .i64 t122)]) l125) w123 R) ?_
       intro rec130 ih129 t122 e126 hb128 he127 l125 w123 hS124
       refine sx_split 7 (todo':=[.inRegion (opsOf p7_30) [4,5,6,7,8,9,10],.code p7_31,.code p7_32,.inLoop p7_17,.inBlock 2,.code p7_18,.inBlock 1,.inLoop p7_7,.inBlock 0,.code p7_8]) (us:=[(27,.int .i64 t122),(28,.string a0),(29,.int .i64 (a0.size : Int))]) (d:=30) (t:=(decide (t122 < (a0.size : Int)))) (by kernel_rfl) (fun h132 => ?_) (fun h133 => ?_)
       ·skip
        have hp134:=ite_t hb128 h132
        refine sx_run 3 (todo':=[.inRegion (opsOf p7_30) [7,8,9,10],.code p7_31,.code p7_32,.inLoop p7_17,.inBlock 2,.code p7_18,.inBlock 1,.inLoop p7_7,.inBlock 0,.code p7_8]) (us:=[(31,.bool true),(32,.string a0),(33,.int .i64 t122)]) (by kernel_rfl) ?_
        obtain ⟨g135,hp136⟩:=ite_some hp134
        refine r_val (c:=p7_30) (i:=7) (d:=(some 34)) (ty:=5) (op:=.index 9 (.tmp 32) (.tmp 33)) (v:=.int .u8 (byt a0 t122)) (by kernel_rfl) (by kernel_rfl) (fun o ho _ => x_indexStr (kk:=.i64) (by kernel_rfl) (by kernel_rfl) (by kernel_rfl) g135.1 g135.2 ho) ?_
        obtain ⟨t137,hr138,hp139⟩:=bind_some' hp136
        refine r_call1 (c:=p7_30) (i:=8) (d:=(some 35)) (g:=16) (args:=#[.int .u8 (byt a0 t122)]) (by kernel_rfl) (by kernel_rfl) (by kernel_rfl) (by kernel_rfl) (weirref15_blank.ok (byt a0 t122) hS124 hr138) ?_
        rintro _ w140 ⟨rfl,hS141⟩
        refine ⟨.bool t137,rfl,?_⟩
        refine sx_split 1 (todo':=[.inRegion (opsOf p7_30) [10],.code p7_31,.code p7_32,.inLoop p7_17,.inBlock 2,.code p7_18,.inBlock 1,.inLoop p7_7,.inBlock 0,.code p7_8]) (us:=[]) (d:=36) (t:=(!t137)) (by kernel_rfl) (fun h142 => ?_) (fun h143 => ?_)
        ·skip
         have hp144:=ite_t hp139 h142
         refine sx_run 11 (todo':=[.inLoop p7_17,.inBlock 2,.code p7_18,.inBlock 1,.inLoop p7_7,.inBlock 0,.code p7_8]) (us:=[(37,.bool true),(38,.int .i64 t122),(39,.int .i64 (IntKind.i64.wrap (t122 + 1))),(6,.int .i64 (IntKind.i64.wrap (t122 + 1)))]) (by kernel_rfl) ?_
         refine sx_run 1 (todo':=[.code p7_17,.inLoop p7_17,.inBlock 2,.code p7_18,.inBlock 1,.inLoop p7_7,.inBlock 0,.code p7_8]) (us:=[]) (by kernel_rfl) ?_
         refine Runs.fill (m:=(mk 67 [(0,.string a0),(3,.pointer (some ⟨b1,0,none⟩)),(4,.slice A34 t33.length c35),(5,.int .i64 t37),(6,.int .i64 (IntKind.i64.wrap (t122 + 1)))])) (by kernel_rfl) ?_
         exact ih129 (IntKind.i64.wrap (t122 + 1)) _ hp144 he127 _ _ hS141
        ·skip
         have hp145:=ite_f hp139 h143
         refine sx_run 4 (todo':=[.code p7_18,.inBlock 1,.inLoop p7_7,.inBlock 0,.code p7_8]) (us:=[(37,.bool false)]) (by kernel_rfl) ?_
         refine Runs.fill (m:=(mk 67 [(0,.string a0),(3,.pointer (some ⟨b1,0,none⟩)),(4,.slice A34 t33.length c35),(5,.int .i64 t37),(6,.int .i64 t122)])) (by kernel_rfl) ?_
         exact J65 t122 ((Option.some.inj hp145).trans he127) _ _ hS141
       ·skip
        have hp146:=ite_f hb128 h133
        refine sx_run 10 (todo':=[.code p7_18,.inBlock 1,.inLoop p7_7,.inBlock 0,.code p7_8]) (us:=[(31,.bool false),(32,undef),(33,undef),(34,undef),(35,undef),(36,undef),(37,.bool false)]) (by kernel_rfl) ?_
        refine Runs.fill (m:=(mk 67 [(0,.string a0),(3,.pointer (some ⟨b1,0,none⟩)),(4,.slice A34 t33.length c35),(5,.int .i64 t37),(6,.int .i64 t122)])) (by kernel_rfl) ?_
        exact J65 t122 ((Option.some.inj hp146).trans he127) _ _ hS124
      refine Runs.fill (m:=(mk 67 [(0,.string a0),(3,.pointer (some ⟨b1,0,none⟩)),(4,.slice A34 t33.length c35),(5,.int .i64 t37),(6,.int .i64 t37)])) (by kernel_rfl) ?_
      exact L131 t37 _ hv60 rfl _ _ hS57
     ·skip
      have hp147:=ite_t hp55 rfl
      refine sx_run 8 (todo':=[.inLoop p7_7,.inBlock 0,.code p7_8]) (us:=[(24,.int .i64 t37),(25,.int .i64 (IntKind.i64.wrap (t37 + 1))),(5,.int .i64 (IntKind.i64.wrap (t37 + 1)))]) (by kernel_rfl) ?_
      refine sx_run 1 (todo':=[.code p7_7,.inLoop p7_7,.inBlock 0,.code p7_8]) (us:=[]) (by kernel_rfl) ?_
      refine Runs.fill (m:=(mk 67 [(0,.string a0),(3,.pointer (some ⟨b1,0,none⟩)),(4,.slice A34 t33.length c35),(5,.int .i64 (IntKind.i64.wrap (t37 + 1)))])) (by kernel_rfl) ?_
      exact ih44 (id t33) (IntKind.i64.wrap (t37 + 1)) _ hp147 he42 _ A34 c35 _ hS57
    ·skip
     have hp148:=ite_f hb43 h49
     refine sx_run 3 (todo':=[.code p7_8]) (us:=[]) (by kernel_rfl) ?_
     refine Runs.fill (m:=(mk 67 [(3,.pointer (some ⟨b1,0,none⟩)),(4,.slice A34 t33.length c35)])) (by kernel_rfl) ?_
     exact J26 t33 ((Option.some.inj hp148).trans he42) _ A34 c35 _ hS39
   have hS150:=hS3.nilrow none 24 3
   have hS151:=hS150.pick1
   refine Runs.fill (m:=(mk 67 [(0,.string a0),(3,.pointer (some ⟨b1,0,none⟩)),(4,.slice none 0 0),(5,.int .i64 0)])) (by kernel_rfl) ?_
   exact L46 [] 0 _ hv17 rfl _ none 0 _ hS151

noncomputable def cd8 (p : List Nat) : Code:=sub (bodyOf Tryd.f8) p
noncomputable abbrev p8_0 : Code:=cd8 [1,0,0]
noncomputable abbrev p8_1 : Code:=cd8 [1,0,1]
noncomputable abbrev p8_2 : Code:=cd8 [1,1]
noncomputable abbrev p8_3 : Code:=cd8 [1,0,1,0,1]
noncomputable abbrev p8_4 : Code:=cd8 [1,1,0,1,0,0]
noncomputable abbrev p8_5 : Code:=cd8 [1,1,1]
noncomputable abbrev p8_6 : Code:=cd8 [1,1,1,1]
noncomputable abbrev p8_7 : Code:=cd8 [1,1,0,1,0,0,0,0]
noncomputable abbrev p8_8 : Code:=cd8 [1,1,0,1,0,0,0,1]
noncomputable abbrev p8_9 : Code:=cd8 [1,1,0,1,0,0,1]
noncomputable abbrev p8_10 : Code:=cd8 [1,1,0,1,0,0,1,0,0,0]
noncomputable abbrev p8_11 : Code:=cd8 [1,1,0,1,0,0,1,0,0,1]
noncomputable abbrev p8_12 : Code:=cd8 [1,1,0,1,0,0,1,1]
noncomputable abbrev p8_13 : Code:=cd8 [1,1,0,1,0,0,1,0,0,1,0,1]
def weirlaw11_SamePicks.l0 (a0 : List api_Pick) (a1 : List api_Pick) (t16 : Int) : Option (Sum Unit Bool) :=
  (if (decide (t16 < (a0.length : Int))) = true then (if 0 ≤ t16 ∧ t16 < (a0.length : Int) then (if 0 ≤ t16 ∧ t16 < (a1.length : Int) then (if (!(decide ((gt a0 t16) = (gt a1 t16)))) = true then some (.inr (false)) else (weirlaw11_SamePicks.l0 a0 a1 (IntKind.i64.wrap (t16 + 1)))) else none) else none) else some (.inl ()))
 partial_fixpoint
def weirlaw11_SamePicks.f (a0 : List api_Pick) (a1 : List api_Pick) : Option Bool :=
  (if ((a0.length : Int) != (a1.length : Int)) = true then some (false) else (weirlaw11_SamePicks.l0 a0 a1 0 >>= (fun | .inl () => some (true) | .inr e => some e)))
set_option maxHeartbeats 16000000 in
theorem weirlaw11_SamePicks.ok (a0 : List api_Pick) (a1 : List api_Pick) (Aa0 : Option Addr) (ca0 : Nat) (Aa1 : Option Addr) (ca1 : Nat) {w0 : World} {Z : Zm} {fs : List XObj} {w : World} (hS0 : St w0 Z (fs) w) (ha0 : SlZ (flat enc_api_Pick) 3 Z Aa0 ca0 a0) (ha1 : SlZ (flat enc_api_Pick) 3 Z Aa1 ca1 a1) {q0 : Bool} (hp0 : weirlaw11_SamePicks.f a0 a1 = some q0) :
    Calls Tryd.prog 8 #[.slice Aa0 a0.length ca0,.slice Aa1 a1.length ca1] w (fun e w' => e = .returned (.bool q0) ∧ St w0 Z (fs) w'):=by
  refine calls_abs ?_; intro R hR
  unfold weirlaw11_SamePicks.f at hp0
  refine calls_of_runs (fn:=Tryd.f8) (c:=cd8 []) Tryd.func8 (by kernel_rfl) (al:=[.slice Aa0 a0.length ca0,.slice Aa1 a1.length ca1]) rfl (n:=24) rfl ?_
  refine sx_split 12 (todo':=[.inRegion (opsOf p8_0) [],.code p8_1,.code p8_2]) (us:=[(4,.bool false),(6,.slice Aa0 a0.length ca0),(7,.int .i64 (a0.length : Int)),(8,.slice Aa1 a1.length ca1),(9,.int .i64 (a1.length : Int))]) (d:=10) (t:=((a0.length : Int) != (a1.length : Int))) (by kernel_rfl) (fun h1 => ?_) (fun h2 => ?_)
  ·skip
   have hp3:=ite_t hp0 h1
   refine sx_run 6 (todo':=[.code p8_3,.code p8_2]) (us:=[(4,.bool false)]) (by kernel_rfl) ?_
   refine runs_ret (fn:=Tryd.f8) (v:=.bool false) Tryd.func8 (by kernel_rfl) ?_
   have hr4:=(Option.some.inj hp3)
   cases hr4
   exact hR _ _ ⟨rfl,hS0⟩
  ·skip
   have hp5:=ite_f hp0 h2
   refine sx_run 10 (todo':=[.code p8_4,.inLoop p8_4,.inBlock 0,.code p8_5]) (us:=[(5,.int .i64 0)]) (by kernel_rfl) ?_
   obtain ⟨v6,hv7,hp8⟩:=bind_some' hp5
   have hq11 : ∀ x,Sum.inr x = v6 → x = q0:=by intro x hx; subst hx; simpa using hp8
   have J12 : ∀ (he14 : Sum.inl () = v6) (l13 : List Value) (w9 : World) (hS10 : St w0 Z (fs) w9),Runs Tryd.prog (fx 8) [.code p8_5] (fill (mk 26 []) l13) w9 R:=by
    intro he14 l13 w9 hS10
    subst he14
    try dsimp only at hp8
    refine sx_run 4 (todo':=[.code p8_6]) (us:=[(4,.bool true)]) (by kernel_rfl) ?_
    refine runs_ret (fn:=Tryd.f8) (v:=.bool true) Tryd.func8 (by kernel_rfl) ?_
    have hr15:=(Option.some.inj hp8)
    cases hr15
    exact hR _ _ ⟨rfl,hS10⟩
   have L25 : ∀ (t16 : Int) (e20 : Sum Unit Bool),weirlaw11_SamePicks.l0 a0 a1 t16 = some e20 → e20 = v6 → ∀ (l19 : List Value) (w17 : World) (hS18 : St w0 Z (fs) w17),Runs Tryd.prog (fx 8) [.code p8_4,.inLoop p8_4,.inBlock 0,.code p8_5] (fill (mk 26 [(0,.slice Aa0 a0.length ca0),(1,.slice Aa1 a1.length ca1),(5,.int .i64 t16)]) l19) w17 R:=by
    refine weirlaw11_SamePicks.l0.partial_correctness a0 a1 (fun t16 e20 => e20 = v6 → ∀ (l19 : List Value) (w17 : World) (hS18 : St w0 Z (fs) w17),Runs Tryd.prog (fx 8) [.code p8_4,.inLoop p8_4,.inBlock 0,.code p8_5] (fill (mk 26 [(0,.slice Aa0 a0.length ca0),(1,.slice Aa1 a1.length ca1),(5,.int .i64 t16)]) l19) w17 R) ?_
    intro rec24 ih23 t16 e20 hb22 he21 l19 w17 hS18
    have hq26 : ∀ x,Sum.inr x = e20 → x = q0:=fun x hx => hq11 x (hx.trans he21)
    refine sx_split 7 (todo':=[.inRegion (opsOf p8_7) [],.code p8_8,.code p8_9,.inLoop p8_4,.inBlock 0,.code p8_5]) (us:=[(11,.int .i64 t16),(12,.slice Aa0 a0.length ca0),(13,.int .i64 (a0.length : Int))]) (d:=14) (t:=(decide (t16 < (a0.length : Int)))) (by kernel_rfl) (fun h27 => ?_) (fun h28 => ?_)
    ·skip
     have hp29:=ite_t hb22 h27
     refine sx_run 6 (todo':=[.code p8_10,.code p8_11,.inBlock 1,.code p8_12,.inLoop p8_4,.inBlock 0,.code p8_5]) (us:=[]) (by kernel_rfl) ?_
     refine r_quiet hS18 (c:=p8_10) (id:=6) (by kernel_rfl) (by kernel_rfl) (by kernel_rfl) (is:=[0,1,2,3,4,5,6,7,8]) (by kernel_rfl) ?_
     refine q_run 2 (is':=[2,3,4,5,6,7,8]) (us:=[(17,.slice Aa0 a0.length ca0),(18,.int .i64 t16)]) (by kernel_rfl) ?_
     obtain ⟨g30,hp31⟩:=ite_some hp29
     obtain ⟨b32,p33,hA34,hc35⟩:=ha0.atF g30.1 g30.2
     refine q_indexAddr (c:=p8_10) (i:=2) (d:=(some 19)) (ty:=0) (t:=22) (e:=24) (n:=a0.length) (cp:=ca0) (sz:=3) (kk:=.i64) (x:=(.tmp 17)) (y:=(.tmp 18)) (b:=b32) (o':=p33) (j:=t16) (by kernel_rfl) (by kernel_rfl) (slv (by kernel_rfl) hA34) (by kernel_rfl) (by kernel_rfl) (by kernel_rfl) g30.1 g30.2 ?_
     refine q_load (c:=p8_10) (i:=3) (d:=(some 20)) (ty:=24) (t:=24) (x:=(.tmp 19)) (p:=⟨b32,p33 + t16.toNat * 3,none⟩) (v:=.agg (enc_api_Pick (gt a0 t16)).toArray) (by kernel_rfl) (by kernel_rfl) (by kernel_rfl) (fun w hC => (loads_agg (hc35.cells hC) (by kernel_rfl) (by kernel_rfl))) ?_
     refine q_run 2 (is':=[6,7,8]) (us:=[(21,.slice Aa1 a1.length ca1),(22,.int .i64 t16)]) (by kernel_rfl) ?_
     obtain ⟨g36,hp37⟩:=ite_some hp31
     obtain ⟨b38,p39,hA40,hc41⟩:=ha1.atF g36.1 g36.2
     refine q_indexAddr (c:=p8_10) (i:=6) (d:=(some 23)) (ty:=0) (t:=22) (e:=24) (n:=a1.length) (cp:=ca1) (sz:=3) (kk:=.i64) (x:=(.tmp 21)) (y:=(.tmp 22)) (b:=b38) (o':=p39) (j:=t16) (by kernel_rfl) (by kernel_rfl) (slv (by kernel_rfl) hA40) (by kernel_rfl) (by kernel_rfl) (by kernel_rfl) g36.1 g36.2 ?_
     refine q_load (c:=p8_10) (i:=7) (d:=(some 24)) (ty:=24) (t:=24) (x:=(.tmp 23)) (p:=⟨b38,p39 + t16.toNat * 3,none⟩) (v:=.agg (enc_api_Pick (gt a1 t16)).toArray) (by kernel_rfl) (by kernel_rfl) (by kernel_rfl) (fun w hC => (loads_agg (hc41.cells hC) (by kernel_rfl) (by kernel_rfl))) ?_
     refine q_val (c:=p8_10) (i:=8) (d:=(some 25)) (ty:=4) (op:=.binOp .neq 24 (.tmp 20) (.tmp 24) 24) (v:=.bool (!(decide ((gt a0 t16) = (gt a1 t16))))) (by kernel_rfl) (by kernel_rfl) (fun w hC o ho _ => x_neq_api_Pick (by kernel_rfl) (by kernel_rfl) ho) ?_
     refine q_split (!(decide ((gt a0 t16) = (gt a1 t16)))) (fun h42 => ?_) (fun h43 => ?_)
     ·skip
      have hp44:=ite_t hp37 h42
      refine Qs.nil ?_
      intro w45 hS46
      refine sx_run 5 (todo':=[.code p8_13,.inBlock 1,.code p8_12,.inLoop p8_4,.inBlock 0,.code p8_5]) (us:=[(4,.bool false)]) (by kernel_rfl) ?_
      refine runs_ret (fn:=Tryd.f8) (v:=.bool false) Tryd.func8 (by kernel_rfl) ?_
      have hr47:=(hq26 _ (Option.some.inj hp44))
      cases hr47
      exact hR _ _ ⟨rfl,hS46⟩
     ·skip
      have hp48:=ite_f hp37 h43
      refine Qs.nil ?_
      intro w49 hS50
      refine sx_run 8 (todo':=[.inLoop p8_4,.inBlock 0,.code p8_5]) (us:=[(15,.int .i64 t16),(16,.int .i64 (IntKind.i64.wrap (t16 + 1))),(5,.int .i64 (IntKind.i64.wrap (t16 + 1)))]) (by kernel_rfl) ?_
      refine sx_run 1 (todo':=[.code p8_4,.inLoop p8_4,.inBlock 0,.code p8_5]) (us:=[]) (by kernel_rfl) ?_
      refine Runs.fill (m:=(mk 26 [(0,.slice Aa0 a0.length ca0),(1,.slice Aa1 a1.length ca1),(5,.int .i64 (IntKind.i64.wrap (t16 + 1)))])) (by kernel_rfl) ?_
      exact ih23 (IntKind.i64.wrap (t16 + 1)) _ hp48 he21 _ _ hS50
    ·skip
     have hp51:=ite_f hb22 h28
     refine sx_run 3 (todo':=[.code p8_5]) (us:=[]) (by kernel_rfl) ?_
     refine Runs.fill (m:=(mk 26 [])) (by kernel_rfl) ?_
     exact J12 ((Option.some.inj hp51).trans he21) _ _ hS18
   refine Runs.fill (m:=(mk 26 [(0,.slice Aa0 a0.length ca0),(1,.slice Aa1 a1.length ca1),(5,.int .i64 0)])) (by kernel_rfl) ?_
   exact L25 0 _ hv7 rfl _ _ hS0

noncomputable def cd19 (p : List Nat) : Code:=sub (bodyOf Tryd.f19) p
noncomputable abbrev p19_0 : Code:=cd19 [1,0,1,0,1,0,1,1]
noncomputable abbrev p19_1 : Code:=cd19 [1,1]
def weirlaw05_number.f (a0i : Int) : Option Int :=
  some (a0i)
set_option maxHeartbeats 16000000 in
theorem weirlaw05_number.ok (a0i : Int) {w0 : World} {Z : Zm} {fs : List XObj} {w : World} (hS0 : St w0 Z (fs) w) {q0 : Int} (hp0 : weirlaw05_number.f a0i = some q0) :
    Calls Tryd.prog 19 #[.iface 25 (.int .i64 a0i)] w (fun e w' => e = .returned (.int .i64 q0) ∧ St w0 Z (fs) w'):=by
  refine calls_abs ?_; intro R hR
  unfold weirlaw05_number.f at hp0
  refine calls_of_runs (fn:=Tryd.f19) (c:=cd19 []) Tryd.func19 (by kernel_rfl) (al:=[.iface 25 (.int .i64 a0i)]) rfl (n:=8) rfl ?_
  refine sx_run 26 (todo':=[.code p19_0,.inBlock 0,.code p19_1]) (us:=[(2,.int .i64 0),(4,.iface 25 (.int .i64 a0i)),(5,.tuple #[.int .i64 a0i,.bool true]),(6,.bool true),(7,.int .i64 a0i),(3,.int .i64 a0i),(8,.int .i64 a0i),(2,.int .i64 a0i)]) (by kernel_rfl) ?_
  refine runs_ret (fn:=Tryd.f19) (v:=.int .i64 a0i) Tryd.func19 (by kernel_rfl) ?_
  have hr1:=(Option.some.inj hp0)
  cases hr1
  exact hR _ _ ⟨rfl,hS0⟩

noncomputable def cd9 (p : List Nat) : Code:=sub (bodyOf Tryd.f9) p
noncomputable abbrev p9_0 : Code:=cd9 [0]
noncomputable abbrev p9_1 : Code:=cd9 [1]
noncomputable abbrev p9_2 : Code:=cd9 [1,0,1,0,0]
noncomputable abbrev p9_3 : Code:=cd9 [1,0,1,0,1]
noncomputable abbrev p9_4 : Code:=cd9 [1,1]
noncomputable abbrev p9_5 : Code:=cd9 [1,0,1,0,1,0,1,0]
noncomputable abbrev p9_6 : Code:=cd9 [1,0,1,0,1,0,1,1]
noncomputable abbrev p9_7 : Code:=cd9 [1,0,1,0,1,1,0]
noncomputable abbrev p9_8 : Code:=cd9 [1,0,1,0,1,1,1]
noncomputable abbrev p9_9 : Code:=cd9 [1,1,0]
noncomputable abbrev p9_10 : Code:=cd9 [1,1,1]
noncomputable abbrev p9_11 : Code:=cd9 [1,0,1,0,1,1,1,0,1,0]
noncomputable abbrev p9_12 : Code:=cd9 [1,0,1,0,1,1,1,0,1,1]
noncomputable abbrev p9_13 : Code:=cd9 [1,0,1,0,1,1,1,1,1,0,1,1,0,0]
noncomputable abbrev p9_14 : Code:=cd9 [1,0,1,0,1,1,1,1,1,0,1,1,0,1]
def weirlaw05_Seen.f (a0 : PErr) : Option weirref05_Fault :=
  (if (PErr.isNil a0) = true then some ((⟨0,0,0⟩ : weirref05_Fault)) else (PErr.cas a0 (some ((⟨0,0,(-1)⟩ : weirref05_Fault))) (fun n13 => some ((⟨(-1),0,n13⟩ : weirref05_Fault))) (fun n14 n15 n16 => (weirlaw05_number.f n16 >>= (fun t31 => some ((⟨n14,n15,t31⟩ : weirref05_Fault)))))))
set_option maxHeartbeats 16000000 in
theorem weirlaw05_Seen.ok (a0 : PErr) (va0 : Value) {w0 : World} {Z : Zm} {fs : List XObj} {w : World} (hS0 : St w0 Z (fs) w) (hea0 : RepE 25 51 Z va0 a0) {q0 : weirref05_Fault} (hp0 : weirlaw05_Seen.f a0 = some q0) :
    Calls Tryd.prog 9 #[va0] w (fun e w' => e = .returned (.agg (enc_weirref05_Fault q0).toArray) ∧ St w0 Z (fs) w'):=by
  refine calls_abs ?_; intro R hR
  unfold weirlaw05_Seen.f at hp0
  refine calls_of_runs (fn:=Tryd.f9) (c:=cd9 []) Tryd.func9 (by kernel_rfl) (al:=[va0]) rfl (n:=33) rfl ?_
  refine sx_run 2 (todo':=[.inRegion (opsOf p9_0) [0],.code p9_1]) (us:=[]) (by kernel_rfl) ?_
  refine r_alloc (c:=p9_0) (i:=0) (d:=(some 2)) (ty:=0) (z:=.agg (enc_weirref05_Fault (⟨0,0,0⟩ : weirref05_Fault)).toArray) (t:=35) (cs:=enc_weirref05_Fault (⟨0,0,0⟩ : weirref05_Fault)) hS0 (by kernel_rfl) (by kernel_rfl) (by kernel_rfl) (by kernel_rfl) ?_
  intro b1 w2 hS3
  refine sx_run 9 (todo':=[.inRegion (opsOf p9_2) [0],.code p9_3,.inBlock 0,.code p9_4]) (us:=[(6,va0)]) (by kernel_rfl) ?_
  refine r_val (c:=p9_2) (i:=0) (d:=(some 7)) (ty:=4) (op:=.binOp .eql 31 (.tmp 6) (.const (.nilIface)) 31) (v:=.bool (PErr.isNil a0)) (by kernel_rfl) (by kernel_rfl) (fun o ho _ => x_errNil (neg:=false) hea0 (by kernel_rfl) (by kernel_rfl) (fun _ _ => (by kernel_rfl)) ho) ?_
  refine r_split (PErr.isNil a0) (fun h5 => ?_) (fun h6 => ?_)
  ·skip
   have hp7:=ite_t hp0 h5
   refine sx_run 9 (todo':=[.inRegion (opsOf p9_5) [1],.code p9_6,.inBlock 0,.code p9_4]) (us:=[(3,va0),(8,.agg (enc_weirref05_Fault (⟨0,0,0⟩ : weirref05_Fault)).toArray)]) (by kernel_rfl) ?_
   refine r_store (c:=p9_5) (i:=1) (d:=none) (ty:=0) (t:=35) (x:=(.tmp 2)) (y:=(.tmp 8)) (b:=b1) (o:=0) (e:=35) (cs:=enc_weirref05_Fault (⟨0,0,0⟩ : weirref05_Fault)) (v:=.agg (enc_weirref05_Fault (⟨0,0,0⟩ : weirref05_Fault)).toArray) (vs:=enc_weirref05_Fault (⟨0,0,0⟩ : weirref05_Fault)) (cs':=enc_weirref05_Fault (⟨0,0,0⟩ : weirref05_Fault)) hS3 (by kernel_rfl) (by kernel_rfl) (by kernel_rfl) (by kernel_rfl) (by kernel_rfl) (by kernel_rfl) (one_weirref05_Fault _) (Nat.le_of_ble_eq_true (by kernel_rfl)) (by kernel_rfl) ?_
   intro w8 hS9
   refine sx_run 1 (todo':=[.code p9_6,.inBlock 0,.code p9_4]) (us:=[]) (by kernel_rfl) ?_
   have hS10:=hS9.drop
   refine runs_ret (fn:=Tryd.f9) (v:=.agg (enc_weirref05_Fault (⟨0,0,0⟩ : weirref05_Fault)).toArray) Tryd.func9 (resl_run (fn:=Tryd.f9) (by kernel_rfl) (.cell (t:=2) (ty:=35) (by kernel_rfl) (loads_agg (hS9.blk 0 rfl) (by kernel_rfl) (by kernel_rfl)) .nil)) ?_
   have hr11:=(Option.some.inj hp7)
   cases hr11
   exact hR _ _ ⟨rfl,hS10⟩
  ·skip
   have hp12:=ite_f hp0 h6
   refine sx_run 4 (todo':=[.inRegion (opsOf p9_7) [0,1,2],.code p9_8,.inBlock 0,.code p9_4]) (us:=[]) (by kernel_rfl) ?_
   rcases a0 with _ | n13 | ⟨n14,n15,n16⟩
   ·skip
    have hp17:=cas_nil hp12
    have hea0 : va0 = .nilIface:=hea0
    subst hea0
    refine sx_run 17 (todo':=[.inRegion (opsOf p9_9) [1],.code p9_10]) (us:=[(9,.tuple #[.int .i64 0,.bool false]),(10,.bool false),(11,.int .i64 0),(14,.tuple #[.pointer none,.bool false]),(15,.bool false),(16,.pointer none),(33,.agg (enc_weirref05_Fault (⟨0,0,(-1)⟩ : weirref05_Fault)).toArray)]) (by kernel_rfl) ?_
    refine r_store (c:=p9_9) (i:=1) (d:=none) (ty:=0) (t:=35) (x:=(.tmp 2)) (y:=(.tmp 33)) (b:=b1) (o:=0) (e:=35) (cs:=enc_weirref05_Fault (⟨0,0,0⟩ : weirref05_Fault)) (v:=.agg (enc_weirref05_Fault (⟨0,0,(-1)⟩ : weirref05_Fault)).toArray) (vs:=enc_weirref05_Fault (⟨0,0,(-1)⟩ : weirref05_Fault)) (cs':=enc_weirref05_Fault (⟨0,0,(-1)⟩ : weirref05_Fault)) hS3 (by kernel_rfl) (by kernel_rfl) (by kernel_rfl) (by kernel_rfl) (by kernel_rfl) (by kernel_rfl) (one_weirref05_Fault _) (Nat.le_of_ble_eq_true (by kernel_rfl)) (by kernel_rfl) ?_
    intro w18 hS19
    refine sx_run 1 (todo':=[.code p9_10]) (us:=[]) (by kernel_rfl) ?_
    have hS20:=hS19.drop
    refine runs_ret (fn:=Tryd.f9) (v:=.agg (enc_weirref05_Fault (⟨0,0,(-1)⟩ : weirref05_Fault)).toArray) Tryd.func9 (resl_run (fn:=Tryd.f9) (by kernel_rfl) (.cell (t:=2) (ty:=35) (by kernel_rfl) (loads_agg (hS19.blk 0 rfl) (by kernel_rfl) (by kernel_rfl)) .nil)) ?_
    have hr21:=(Option.some.inj hp17)
    cases hr21
    exact hR _ _ ⟨rfl,hS20⟩
   ·skip
    have hp22:=cas_num hp12
    have hea0 : va0 = .iface 25 (.int .i64 n13):=hea0
    subst hea0
    refine sx_run 13 (todo':=[.inRegion (opsOf p9_11) [2],.code p9_12,.inBlock 0,.code p9_4]) (us:=[(9,.tuple #[.int .i64 n13,.bool true]),(10,.bool true),(11,.int .i64 n13),(4,.int .i64 n13),(12,.int .i64 n13),(13,.agg (enc_weirref05_Fault (⟨(-1),0,n13⟩ : weirref05_Fault)).toArray)]) (by kernel_rfl) ?_
    refine r_store (c:=p9_11) (i:=2) (d:=none) (ty:=0) (t:=35) (x:=(.tmp 2)) (y:=(.tmp 13)) (b:=b1) (o:=0) (e:=35) (cs:=enc_weirref05_Fault (⟨0,0,0⟩ : weirref05_Fault)) (v:=.agg (enc_weirref05_Fault (⟨(-1),0,n13⟩ : weirref05_Fault)).toArray) (vs:=enc_weirref05_Fault (⟨(-1),0,n13⟩ : weirref05_Fault)) (cs':=enc_weirref05_Fault (⟨(-1),0,n13⟩ : weirref05_Fault)) hS3 (by kernel_rfl) (by kernel_rfl) (by kernel_rfl) (by kernel_rfl) (by kernel_rfl) (by kernel_rfl) (one_weirref05_Fault _) (Nat.le_of_ble_eq_true (by kernel_rfl)) (by kernel_rfl) ?_
    intro w23 hS24
    refine sx_run 1 (todo':=[.code p9_12,.inBlock 0,.code p9_4]) (us:=[]) (by kernel_rfl) ?_
    have hS25:=hS24.drop
    refine runs_ret (fn:=Tryd.f9) (v:=.agg (enc_weirref05_Fault (⟨(-1),0,n13⟩ : weirref05_Fault)).toArray) Tryd.func9 (resl_run (fn:=Tryd.f9) (by kernel_rfl) (.cell (t:=2) (ty:=35) (by kernel_rfl) (loads_agg (hS24.blk 0 rfl) (by kernel_rfl) (by kernel_rfl)) .nil)) ?_
    have hr26:=(Option.some.inj hp22)
    cases hr26
    exact hR _ _ ⟨rfl,hS25⟩
   ·skip
    have hp27:=cas_pos hp12
    obtain ⟨b28,hea0,hs29⟩:=hea0
    subst hea0
    refine sx_run 23 (todo':=[.code p9_13,.code p9_14,.inBlock 0,.code p9_4]) (us:=[(9,.tuple #[.int .i64 0,.bool false]),(10,.bool false),(11,.int .i64 0),(14,.tuple #[.pointer (some ⟨b28,0,none⟩),.bool true]),(15,.bool true),(16,.pointer (some ⟨b28,0,none⟩)),(5,.pointer (some ⟨b28,0,none⟩)),(17,.pointer (some ⟨b28,0,none⟩)),(18,.bool true)]) (by kernel_rfl) ?_
    refine r_drawn3 (C:=St w0 Z (xblk b1 35 (enc_weirref05_Fault (⟨0,0,0⟩ : weirref05_Fault))::fs)) (c:=p9_13) (id:=11) (by kernel_rfl) (by kernel_rfl) 14 (Nat.le_of_ble_eq_true (by kernel_rfl)) (by kernel_rfl) (by kernel_rfl) (by kernel_rfl) (is:=[0,1,2,3,4,5,6,7,8,9,10,11,12,13]) (rest:=[14]) (by kernel_rfl) (by kernel_rfl) hS3.drew ?_
    refine q_run 3 (is':=[3,4,5,6,7,8,9,10,11,12,13]) (us:=[(19,.pointer (some ⟨b28,0,none⟩)),(20,.pointer (some ⟨b28,0,none⟩)),(21,.pointer (some ⟨b28,0,none⟩))]) (by kernel_rfl) ?_
    refine q_load (c:=(hd p9_13 14)) (i:=3) (d:=(some 22)) (ty:=3) (t:=3) (x:=(.tmp 21)) (p:=⟨b28,0,none⟩) (v:=.int .i64 n14) (by kernel_rfl) (by kernel_rfl) (by kernel_rfl) (fun w hC => (loads_at 0 (hs29.cells hC) (by kernel_rfl) (by kernel_rfl))) ?_
    refine q_run 3 (is':=[7,8,9,10,11,12,13]) (us:=[(23,.pointer (some ⟨b28,0,none⟩)),(24,.pointer (some ⟨b28,0,none⟩)),(25,.pointer (some ⟨b28,1,none⟩))]) (by kernel_rfl) ?_
    refine q_load (c:=(hd p9_13 14)) (i:=7) (d:=(some 26)) (ty:=3) (t:=3) (x:=(.tmp 25)) (p:=⟨b28,1,none⟩) (v:=.int .i64 n15) (by kernel_rfl) (by kernel_rfl) (by kernel_rfl) (fun w hC => (loads_at 1 (hs29.cells hC) (by kernel_rfl) (by kernel_rfl))) ?_
    refine q_run 3 (is':=[11,12,13]) (us:=[(27,.pointer (some ⟨b28,0,none⟩)),(28,.pointer (some ⟨b28,0,none⟩)),(29,.pointer (some ⟨b28,2,none⟩))]) (by kernel_rfl) ?_
    refine q_load (c:=(hd p9_13 14)) (i:=11) (d:=(some 30)) (ty:=31) (t:=31) (x:=(.tmp 29)) (p:=⟨b28,2,none⟩) (v:=.iface 25 (.int .i64 n16)) (by kernel_rfl) (by kernel_rfl) (by kernel_rfl) (fun w hC => (loads_at 2 (hs29.cells hC) (by kernel_rfl) (by kernel_rfl))) ?_
    obtain ⟨t31,hr32,hp33⟩:=bind_some' hp27
    refine q_call1 (c:=(hd p9_13 14)) (i:=12) (d:=(some 31)) (v:=.int .i64 t31) (g:=19) (args:=#[.iface 25 (.int .i64 n16)]) (by kernel_rfl) (by kernel_rfl) (by kernel_rfl) (by kernel_rfl) (fun w hC => by
     refine (weirlaw05_number.ok n16 hC hr32).mono ?_
     rintro e w2 ⟨rfl,h2⟩
     exact ⟨rfl,h2⟩) ?_
    refine q_run 1 (is':=[]) (us:=[(32,.agg (enc_weirref05_Fault (⟨n14,n15,t31⟩ : weirref05_Fault)).toArray)]) (by kernel_rfl) ?_
    refine Qs.nil ?_
    intro w34 hS35
    refine r_store (c:=p9_13) (i:=14) (d:=none) (ty:=0) (t:=35) (x:=(.tmp 2)) (y:=(.tmp 32)) (b:=b1) (o:=0) (e:=35) (cs:=enc_weirref05_Fault (⟨0,0,0⟩ : weirref05_Fault)) (v:=.agg (enc_weirref05_Fault (⟨n14,n15,t31⟩ : weirref05_Fault)).toArray) (vs:=enc_weirref05_Fault (⟨n14,n15,t31⟩ : weirref05_Fault)) (cs':=enc_weirref05_Fault (⟨n14,n15,t31⟩ : weirref05_Fault)) hS35 (by kernel_rfl) (by kernel_rfl) (by kernel_rfl) (by kernel_rfl) (by kernel_rfl) (by kernel_rfl) (one_weirref05_Fault _) (Nat.le_of_ble_eq_true (by kernel_rfl)) (by kernel_rfl) ?_
    intro w36 hS37
    refine sx_run 1 (todo':=[.code p9_14,.inBlock 0,.code p9_4]) (us:=[]) (by kernel_rfl) ?_
    refine r_isret (c:=p9_14) (by kernel_rfl) ?_
    have hS38:=hS37.drop
    refine runs_ret (fn:=Tryd.f9) (v:=.agg (enc_weirref05_Fault (⟨n14,n15,t31⟩ : weirref05_Fault)).toArray) Tryd.func9 (resl_run (fn:=Tryd.f9) (by kernel_rfl) (.cell (t:=2) (ty:=35) (by kernel_rfl) (loads_agg (hS37.blk 0 rfl) (by kernel_rfl) (by kernel_rfl)) .nil)) ?_
    have hr39:=(Option.some.inj hp33)
    cases hr39
    exact hR _ _ ⟨rfl,hS38⟩

noncomputable def cd3 (p : List Nat) : Code:=sub (bodyOf Tryd.f3) p
noncomputable abbrev p3_0 : Code:=cd3 [1,0]
noncomputable abbrev p3_1 : Code:=cd3 [1,1]
noncomputable abbrev p3_2 : Code:=cd3 [1,1,0]
noncomputable abbrev p3_3 : Code:=cd3 [1,1,1]
noncomputable abbrev p3_4 : Code:=cd3 [1,1,1,0]
noncomputable abbrev p3_5 : Code:=cd3 [1,1,1,1]
noncomputable abbrev p3_6 : Code:=cd3 [1,1,1,1,0]
noncomputable abbrev p3_7 : Code:=cd3 [1,1,1,1,1]
noncomputable abbrev p3_8 : Code:=cd3 [1,1,1,1,1,0]
noncomputable abbrev p3_9 : Code:=cd3 [1,1,1,1,1,1]
noncomputable abbrev p3_10 : Code:=cd3 [1,1,1,1,1,1,0]
noncomputable abbrev p3_11 : Code:=cd3 [1,1,1,1,1,1,1]
def weirlaw15_ScriptTexts.f (a0 : List api_Pick) (a1 : ByteArray) : Option Bool :=
  (if (([] : List api_Pick).length + a0.length) * 24 ≤ 140737488355328 then (if ((([] : List api_Pick) ++ a0).length + ([(⟨5,0,0⟩ : api_Pick)] : List api_Pick).length) * 24 ≤ 140737488355328 then (if 0 ≤ (a0.length : Int) ∧ (a0.length : Int) ≤ (((([] : List api_Pick) ++ a0) ++ ([(⟨5,0,0⟩ : api_Pick)] : List api_Pick)).length : Int) then (script_Text.f ((((([] : List api_Pick) ++ a0) ++ ([(⟨5,0,0⟩ : api_Pick)] : List api_Pick)).take ((a0.length : Int).toNat)).drop 0) >>= (fun (t35,t36) => (weirref15_Text.f a0 >>= (fun (t41,t42) => (script_Parse.f a1 >>= (fun (t47,t48) => (weirref15_Parse.f a1 >>= (fun (t61,t62) => (if (seq t35 t41) = true then (if (t36 == t42) = true then (weirlaw11_SamePicks.f t47 t61 >>= (fun t82 => (if t82 = true then (weirlaw05_Seen.f t48 >>= (fun t113 => (if (decide (t113 = t62)) = true then (if 0 ≤ (a0.length : Int) ∧ (a0.length : Int) ≤ (((([] : List api_Pick) ++ a0) ++ ([(⟨5,0,0⟩ : api_Pick)] : List api_Pick)).length : Int) then (weirlaw11_SamePicks.f ((((([] : List api_Pick) ++ a0) ++ ([(⟨5,0,0⟩ : api_Pick)] : List api_Pick)).take ((a0.length : Int).toNat)).drop 0) a0 >>= (fun t130 => (if t130 = true then (if 0 ≤ (a0.length : Int) ∧ (a0.length : Int) < (((([] : List api_Pick) ++ a0) ++ ([(⟨5,0,0⟩ : api_Pick)] : List api_Pick)).length : Int) then (if (((gt ((([] : List api_Pick) ++ a0) ++ ([(⟨5,0,0⟩ : api_Pick)] : List api_Pick)) (a0.length : Int)).Thread) == 5) = true then some (true) else some (false)) else none) else some (false)))) else none) else some (false)))) else some (false)))) else some (false)) else some (false)))))))))) else none) else none) else none)
set_option maxHeartbeats 16000000 in
theorem weirlaw15_ScriptTexts.ok (a0 : List api_Pick) (a1 : ByteArray) (Aa0 : Option Addr) (ca0 : Nat) {w0 : World} {Z : Zm} {fs : List XObj} {w : World} (hS0 : St w0 Z (fs) w) (ha0 : SlZ (flat enc_api_Pick) 3 Z Aa0 ca0 a0) (hE : Env Z) {q0 : Bool} (hp0 : weirlaw15_ScriptTexts.f a0 a1 = some q0) :
    Calls Tryd.prog 3 #[.slice Aa0 a0.length ca0,.string a1] w (fun e w' => e = .returned (.bool q0) ∧ St w0 Z (fs) w'):=by
  refine calls_abs ?_; intro R hR
  unfold weirlaw15_ScriptTexts.f at hp0
  refine calls_of_runs (fn:=Tryd.f3) (c:=cd3 []) Tryd.func3 (by kernel_rfl) (al:=[.slice Aa0 a0.length ca0,.string a1]) rfl (n:=77) rfl ?_
  refine sx_run 6 (todo':=[.inRegion (opsOf p3_0) [0,1,2,3,4,5,6],.code p3_1]) (us:=[(4,.bool false)]) (by kernel_rfl) ?_
  refine r_lit0 (c:=p3_0) (i:=0) (d:=(some 14)) (ty:=22) (t:=22) (e:=24) (sz:=3) hS0 (by kernel_rfl) (by kernel_rfl) (by kernel_rfl) (by kernel_rfl) ?_
  intro b2 w3 hS4
  refine sx_run 1 (todo':=[.inRegion (opsOf p3_0) [2,3,4,5,6],.code p3_1]) (us:=[(15,.slice Aa0 a0.length ca0)]) (by kernel_rfl) ?_
  obtain ⟨g5,hp6⟩:=ite_some hp0
  refine r_append (c:=p3_0) (i:=2) (d:=(some 16)) (ty:=22) (enc:=enc_api_Pick) (e:=24) (u:=24) (t:=22) (t2:=22) (sz:=3) (cp:=0) (A:=(some ⟨b2,0,none⟩)) (bytes:=24) (xs:=([] : List api_Pick)) (ys:=a0) (s:=(.tmp 14)) (x:=(.tmp 15)) (xv:=.slice Aa0 a0.length ca0) (info:=infoOf Tryd.prog 24) (z:=zeroOf Tryd.prog 24) (ycs:=a0.flatMap enc_api_Pick) hS4 (by kernel_rfl) (by kernel_rfl) (by kernel_rfl) (by kernel_rfl) (by kernel_rfl) (.inl (by kernel_rfl)) (by kernel_rfl) (by kernel_rfl) (by kernel_rfl) (by kernel_rfl) (by kernel_rfl) (by omega) len_api_Pick one_api_Pick (src_slz hS4 ha0 (by omega) len_api_Pick) rfl g5 (by omega) ?_
  intro A7 c8 w9 hS10
  refine sx_run 1 (todo':=[.inRegion (opsOf p3_0) [4,5,6],.code p3_1]) (us:=[(17,.agg (enc_api_Pick (⟨5,0,0⟩ : api_Pick)).toArray)]) (by kernel_rfl) ?_
  refine r_lit (c:=p3_0) (i:=4) (d:=(some 18)) (ty:=22) (t:=22) (e:=24) (sz:=3) (n:=1) (parts:=#[(0,(.tmp 17))]) (vs:=[(0,.agg (enc_api_Pick (⟨5,0,0⟩ : api_Pick)).toArray)]) (z:=zeroOf Tryd.prog 24) (cs':=([(⟨5,0,0⟩ : api_Pick)] : List api_Pick).flatMap enc_api_Pick) hS10 (by kernel_rfl) (by kernel_rfl) (by kernel_rfl) (by kernel_rfl) (by kernel_rfl) (by decide) (by decide) (by kernel_rfl) rfl (Parts.cons (c:=enc_api_Pick (⟨5,0,0⟩ : api_Pick)) (by kernel_rfl) (len_api_Pick _) Parts.nil) rfl ?_
  intro b13 w14 hS15
  have hS16:=hS15.pick1
  obtain ⟨g17,hp18⟩:=ite_some hp6
  refine r_append (c:=p3_0) (i:=5) (d:=(some 19)) (ty:=22) (enc:=enc_api_Pick) (e:=24) (u:=24) (t:=22) (t2:=22) (sz:=3) (cp:=c8) (A:=A7) (bytes:=24) (xs:=(([] : List api_Pick) ++ a0)) (ys:=([(⟨5,0,0⟩ : api_Pick)] : List api_Pick)) (s:=(.tmp 16)) (x:=(.tmp 18)) (xv:=.slice (some ⟨b13,0,none⟩) ([(⟨5,0,0⟩ : api_Pick)] : List api_Pick).length 1) (info:=infoOf Tryd.prog 24) (z:=zeroOf Tryd.prog 24) (ycs:=([(⟨5,0,0⟩ : api_Pick)] : List api_Pick).flatMap enc_api_Pick) hS16 (by kernel_rfl) (by kernel_rfl) (by kernel_rfl) (by kernel_rfl) (by kernel_rfl) (.inl (by kernel_rfl)) (by kernel_rfl) (by kernel_rfl) (by kernel_rfl) (by kernel_rfl) (by kernel_rfl) (by omega) len_api_Pick one_api_Pick (src_row (hS16.row 1 rfl) (by omega) len_api_Pick) rfl g17 (by omega) ?_
  intro A19 c20 w21 hS22
  refine sx_run 7 (todo':=[.inRegion (opsOf p3_2) [3,4,5,6,7,8,9],.code p3_3]) (us:=[(5,.slice A19 ((([] : List api_Pick) ++ a0) ++ ([(⟨5,0,0⟩ : api_Pick)] : List api_Pick)).length c20),(21,.slice A19 ((([] : List api_Pick) ++ a0) ++ ([(⟨5,0,0⟩ : api_Pick)] : List api_Pick)).length c20),(22,.slice Aa0 a0.length ca0),(23,.int .i64 (a0.length : Int))]) (by kernel_rfl) ?_
  obtain ⟨Z24,hz25,hS26,hs27,-⟩:=hS22.lendrow len_api_Pick (by omega)
  obtain ⟨g28,hp29⟩:=ite_some hp18
  obtain ⟨A30,c31,hr32,hs34⟩:=cutSlZ hs27 (0) ((a0.length : Int).toNat) (by omega) (by omega)
  refine r_val (c:=p3_2) (i:=3) (d:=(some 24)) (ty:=22) (op:=.slice 22 (.tmp 21) none (some (.tmp 23)) none) (v:=.slice A30 ((((([] : List api_Pick) ++ a0) ++ ([(⟨5,0,0⟩ : api_Pick)] : List api_Pick)).take ((a0.length : Int).toNat)).drop 0).length c31) (by kernel_rfl) (by kernel_rfl) (fun o ho _ => x_cutSl_ns (e:=24) (sz:=3) (A:=A19) (n:=((([] : List api_Pick) ++ a0) ++ ([(⟨5,0,0⟩ : api_Pick)] : List api_Pick)).length) (c:=c20) (k:=.i64) (by kernel_rfl) (by kernel_rfl) (by kernel_rfl) (by kernel_rfl) g28 hs27.cap hr32 ho) ?_
  obtain ⟨⟨t35,t36⟩,hr37,hp38⟩:=bind_some' hp29
  try dsimp only at hp38
  refine r_call1 (c:=p3_2) (i:=4) (d:=(some 25)) (g:=4) (args:=#[.slice A30 ((((([] : List api_Pick) ++ a0) ++ ([(⟨5,0,0⟩ : api_Pick)] : List api_Pick)).take ((a0.length : Int).toNat)).drop 0).length c31]) (by kernel_rfl) (by kernel_rfl) (by kernel_rfl) (by kernel_rfl) (script_Text.ok ((((([] : List api_Pick) ++ a0) ++ ([(⟨5,0,0⟩ : api_Pick)] : List api_Pick)).take ((a0.length : Int).toNat)).drop 0) A30 c31 hS26 hs34 (hE.up hz25) hr37) ?_
  rintro _ w39 ⟨rfl,hS40⟩
  refine ⟨.tuple #[.string t35,.int .i64 t36],rfl,?_⟩
  refine sx_run 9 (todo':=[.inRegion (opsOf p3_4) [1,2,3,4,5,6],.code p3_5]) (us:=[(20,.tuple #[.string t35,.int .i64 t36]),(26,.string t35),(27,.int .i64 t36),(6,.string t35),(7,.int .i64 t36),(29,.slice Aa0 a0.length ca0)]) (by kernel_rfl) ?_
  obtain ⟨⟨t41,t42⟩,hr43,hp44⟩:=bind_some' hp38
  try dsimp only at hp44
  refine r_call1 (c:=p3_4) (i:=1) (d:=(some 30)) (g:=5) (args:=#[.slice Aa0 a0.length ca0]) (by kernel_rfl) (by kernel_rfl) (by kernel_rfl) (by kernel_rfl) (weirref15_Text.ok a0 Aa0 ca0 hS40 (ha0.up hz25) hr43) ?_
  rintro _ w45 ⟨rfl,hS46⟩
  refine ⟨.tuple #[.string t41,.int .i64 t42],rfl,?_⟩
  refine sx_run 9 (todo':=[.inRegion (opsOf p3_6) [1,2,3,4,5,6],.code p3_7]) (us:=[(28,.tuple #[.string t41,.int .i64 t42]),(31,.string t41),(32,.int .i64 t42),(8,.string t41),(9,.int .i64 t42),(34,.string a1)]) (by kernel_rfl) ?_
  obtain ⟨⟨t47,t48⟩,hr52,hp53⟩:=bind_some' hp44
  try dsimp only at hp53
  refine r_call1 (c:=p3_6) (i:=1) (d:=(some 35)) (g:=6) (args:=#[.string a1]) (by kernel_rfl) (by kernel_rfl) (by kernel_rfl) (by kernel_rfl) (script_Parse.ok a1 hS46 (hE.up hz25) hr52) ?_
  rintro _ w56 ⟨Q49,Q50,Q51,Z58,hz59,rfl,hS57,hs60⟩
  refine ⟨.tuple #[.slice Q49 t47.length Q50,Q51],rfl,?_⟩
  refine sx_run 9 (todo':=[.inRegion (opsOf p3_8) [1,2,3,4,5,6,7],.code p3_9]) (us:=[(33,.tuple #[.slice Q49 t47.length Q50,Q51]),(36,.slice Q49 t47.length Q50),(37,Q51),(10,.slice Q49 t47.length Q50),(11,Q51),(39,.string a1)]) (by kernel_rfl) ?_
  obtain ⟨⟨t61,t62⟩,hr65,hp66⟩:=bind_some' hp53
  try dsimp only at hp66
  refine r_call1 (c:=p3_8) (i:=1) (d:=(some 40)) (g:=7) (args:=#[.string a1]) (by kernel_rfl) (by kernel_rfl) (by kernel_rfl) (by kernel_rfl) (weirref15_Parse.ok a1 hS57 hr65) ?_
  rintro _ w68 ⟨Q63,Q64,rfl,hS69⟩
  refine ⟨.tuple #[.slice Q63 t61.length Q64,.agg (enc_weirref05_Fault t62).toArray],rfl,?_⟩
  refine sx_run 3 (todo':=[.inRegion (opsOf p3_8) [5,6,7],.code p3_9]) (us:=[(38,.tuple #[.slice Q63 t61.length Q64,.agg (enc_weirref05_Fault t62).toArray]),(41,.slice Q63 t61.length Q64),(42,.agg (enc_weirref05_Fault t62).toArray)]) (by kernel_rfl) ?_
  refine r_alloc (c:=p3_8) (i:=5) (d:=(some 13)) (ty:=0) (z:=.agg (enc_weirref05_Fault (⟨0,0,0⟩ : weirref05_Fault)).toArray) (t:=35) (cs:=enc_weirref05_Fault (⟨0,0,0⟩ : weirref05_Fault)) hS69 (by kernel_rfl) (by kernel_rfl) (by kernel_rfl) (by kernel_rfl) ?_
  intro b70 w71 hS72
  refine sx_run 1 (todo':=[.inRegion (opsOf p3_8) [7],.code p3_9]) (us:=[(12,.slice Q63 t61.length Q64)]) (by kernel_rfl) ?_
  refine r_store (c:=p3_8) (i:=7) (d:=none) (ty:=0) (t:=35) (x:=(.tmp 13)) (y:=(.tmp 42)) (b:=b70) (o:=0) (e:=35) (cs:=enc_weirref05_Fault (⟨0,0,0⟩ : weirref05_Fault)) (v:=.agg (enc_weirref05_Fault t62).toArray) (vs:=enc_weirref05_Fault t62) (cs':=enc_weirref05_Fault t62) hS72 (by kernel_rfl) (by kernel_rfl) (by kernel_rfl) (by kernel_rfl) (by kernel_rfl) (by kernel_rfl) (one_weirref05_Fault _) (Nat.le_of_ble_eq_true (by kernel_rfl)) (by kernel_rfl) ?_
  intro w74 hS75
  refine sx_run 2 (todo':=[.code p3_10,.code p3_11]) (us:=[]) (by kernel_rfl) ?_
  refine r_quiet hS75 (c:=p3_10) (id:=6) (by kernel_rfl) (by kernel_rfl) (by kernel_rfl) (is:=[0,1,2,3,4,5,6,7,8,9,10,11,12,13,14,15,16,17,18,19,20,21,22,23,24,25,26,27,28,29,30,31,32,33,34,35,36]) (by kernel_rfl) ?_
  refine q_splitr 3 (is':=[3,4,5,6,7,8,9,10,11,12,13,14,15,16,17,18,19,20,21,22,23,24,25,26,27,28,29,30,31,32,33,34,35,36]) (us:=[(43,.string t35),(44,.string t41)]) (d:=45) (t:=(seq t35 t41)) (by kernel_rfl) (fun h76 => ?_) (fun h77 => ?_)
  ·skip
   have hp78:=ite_t hp66 h76
   refine q_splitr 4 (is':=[7,8,9,10,11,12,13,14,15,16,17,18,19,20,21,22,23,24,25,26,27,28,29,30,31,32,33,34,35,36]) (us:=[(46,.bool true),(47,.int .i64 t36),(48,.int .i64 t42)]) (d:=49) (t:=(t36 == t42)) (by kernel_rfl) (fun h79 => ?_) (fun h80 => ?_)
   ·skip
    have hp81:=ite_t hp78 h79
    refine q_run 4 (is':=[11,12,13,14,15,16,17,18,19,20,21,22,23,24,25,26,27,28,29,30,31,32,33,34,35,36]) (us:=[(50,.bool true),(51,.bool true),(52,.slice Q49 t47.length Q50),(53,.slice Q63 t61.length Q64)]) (by kernel_rfl) ?_
    obtain ⟨t82,hr83,hp84⟩:=bind_some' hp81
    refine q_call1 (c:=p3_10) (i:=11) (d:=(some 54)) (v:=.bool t82) (g:=8) (args:=#[.slice Q49 t47.length Q50,.slice Q63 t61.length Q64]) (by kernel_rfl) (by kernel_rfl) (by kernel_rfl) (by kernel_rfl) (fun w hC => by
     have hS85:=hC.pick2
     obtain ⟨Z86,hz87,hS88,hs89,hb90⟩:=hS85.lendrow len_api_Pick (by omega)
     have hS91:=hS88.pick1
     obtain ⟨Z92,hz93,hS94,hs95,hb96⟩:=hS91.lendrow len_api_Pick (by omega)
     refine (weirlaw11_SamePicks.ok t47 t61 Q49 Q50 Q63 Q64 hS94 (hs89.up hz93) hs95 hr83).mono ?_
     rintro e w2 ⟨rfl,h2⟩
     have hS97:=hb96 _ _ h2
     have hS98:=hb90 _ _ hS97
     have hS99:=hS98.pick3
     have hS100:=hS99.pick1
     have hS101:=hS100.pick2
     have hS102:=hS101.pick3
     exact ⟨rfl,hS102⟩) ?_
    refine q_run 2 (is':=[14,15,16,17,18,19,20,21,22,23,24,25,26,27,28,29,30,31,32,33,34,35,36]) (us:=[(55,.bool t82),(56,.bool t82)]) (by kernel_rfl) ?_
    cases t82
    ·skip
     have hp103:=ite_f hp84 rfl
     refine q_run 23 (is':=[]) (us:=[(57,undef),(58,undef),(59,undef),(60,undef),(61,.bool false),(62,.bool false),(63,undef),(64,undef),(65,undef),(66,undef),(67,undef),(68,undef),(69,.bool false),(70,.bool false),(71,undef),(72,undef),(73,undef),(74,undef),(75,undef),(76,undef),(77,undef),(78,.bool false),(4,.bool false)]) (by kernel_rfl) ?_
     refine Qs.nil ?_
     intro w104 hS105
     have hS106:=hS105.drop
     have hS107:=hS106.drop
     have hS108:=hS107.drop
     have hS109:=hS108.drop
     have hS110:=hS109.less (Zm.Le.trans hz25 hz59)
     refine runs_ret (fn:=Tryd.f3) (v:=.bool false) Tryd.func3 (by kernel_rfl) ?_
     have hr111:=(Option.some.inj hp103)
     cases hr111
     exact hR _ _ ⟨rfl,hS110⟩
    ·skip
     have hp112:=ite_t hp84 rfl
     refine q_run 1 (is':=[15,16,17,18,19,20,21,22,23,24,25,26,27,28,29,30,31,32,33,34,35,36]) (us:=[(57,Q51)]) (by kernel_rfl) ?_
     obtain ⟨t113,hr114,hp115⟩:=bind_some' hp112
     refine q_call1 (c:=p3_10) (i:=15) (d:=(some 58)) (v:=.agg (enc_weirref05_Fault t113).toArray) (g:=9) (args:=#[Q51]) (by kernel_rfl) (by kernel_rfl) (by kernel_rfl) (by kernel_rfl) (fun w hC => by
      refine (weirlaw05_Seen.ok t48 Q51 hC hs60 hr114).mono ?_
      rintro e w2 ⟨rfl,h2⟩
      have hS116:=h2.pick3
      have hS117:=hS116.pick3
      have hS118:=hS117.pick3
      have hS119:=hS118.pick3
      exact ⟨rfl,hS119⟩) ?_
     refine q_load (c:=p3_10) (i:=16) (d:=(some 59)) (ty:=35) (t:=35) (x:=(.tmp 13)) (p:=⟨b70,0,none⟩) (v:=.agg (enc_weirref05_Fault t62).toArray) (by kernel_rfl) (by kernel_rfl) (by kernel_rfl) (fun w hC => (loads_agg (hC.blk 0 rfl) (by kernel_rfl) (by kernel_rfl))) ?_
     refine q_val (c:=p3_10) (i:=17) (d:=(some 60)) (ty:=4) (op:=.binOp .eql 35 (.tmp 58) (.tmp 59) 35) (v:=.bool (decide (t113 = t62))) (by kernel_rfl) (by kernel_rfl) (fun w hC o ho _ => x_eql_weirref05_Fault (by kernel_rfl) (by kernel_rfl) ho) ?_
     refine q_split (decide (t113 = t62)) (fun h120 => ?_) (fun h121 => ?_)
     ·skip
      have hp122:=ite_t hp115 h120
      refine q_run 5 (is':=[23,24,25,26,27,28,29,30,31,32,33,34,35,36]) (us:=[(61,.bool true),(62,.bool true),(63,.slice A19 ((([] : List api_Pick) ++ a0) ++ ([(⟨5,0,0⟩ : api_Pick)] : List api_Pick)).length c20),(64,.slice Aa0 a0.length ca0),(65,.int .i64 (a0.length : Int))]) (by kernel_rfl) ?_
      obtain ⟨g123,hp124⟩:=ite_some hp122
      obtain ⟨A125,c126,hr127,hs129⟩:=cutSlZ hs27 (0) ((a0.length : Int).toNat) (by omega) (by omega)
      refine q_val (c:=p3_10) (i:=23) (d:=(some 66)) (ty:=22) (op:=.slice 22 (.tmp 63) none (some (.tmp 65)) none) (v:=.slice A125 ((((([] : List api_Pick) ++ a0) ++ ([(⟨5,0,0⟩ : api_Pick)] : List api_Pick)).take ((a0.length : Int).toNat)).drop 0).length c126) (by kernel_rfl) (by kernel_rfl) (fun w hC o ho _ => x_cutSl_ns (e:=24) (sz:=3) (A:=A19) (n:=((([] : List api_Pick) ++ a0) ++ ([(⟨5,0,0⟩ : api_Pick)] : List api_Pick)).length) (c:=c20) (k:=.i64) (by kernel_rfl) (by kernel_rfl) (by kernel_rfl) (by kernel_rfl) g123 hs27.cap hr127 ho) ?_
      refine q_run 1 (is':=[25,26,27,28,29,30,31,32,33,34,35,36]) (us:=[(67,.slice Aa0 a0.length ca0)]) (by kernel_rfl) ?_
      obtain ⟨t130,hr131,hp132⟩:=bind_some' hp124
      refine q_call1 (c:=p3_10) (i:=25) (d:=(some 68)) (v:=.bool t130) (g:=8) (args:=#[.slice A125 ((((([] : List api_Pick) ++ a0) ++ ([(⟨5,0,0⟩ : api_Pick)] : List api_Pick)).take ((a0.length : Int).toNat)).drop 0).length c126,.slice Aa0 a0.length ca0]) (by kernel_rfl) (by kernel_rfl) (by kernel_rfl) (by kernel_rfl) (fun w hC => by
       refine (weirlaw11_SamePicks.ok ((((([] : List api_Pick) ++ a0) ++ ([(⟨5,0,0⟩ : api_Pick)] : List api_Pick)).take ((a0.length : Int).toNat)).drop 0) a0 A125 c126 Aa0 ca0 hC (hs129.up hz59) (ha0.up (Zm.Le.trans hz25 hz59)) hr131).mono ?_
       rintro e w2 ⟨rfl,h2⟩
       have hS133:=h2.pick3
       have hS134:=hS133.pick3
       have hS135:=hS134.pick3
       have hS136:=hS135.pick3
       exact ⟨rfl,hS136⟩) ?_
      refine q_run 2 (is':=[28,29,30,31,32,33,34,35,36]) (us:=[(69,.bool t130),(70,.bool t130)]) (by kernel_rfl) ?_
      cases t130
      ·skip
       have hp137:=ite_f hp132 rfl
       refine q_run 9 (is':=[]) (us:=[(71,undef),(72,undef),(73,undef),(74,undef),(75,undef),(76,undef),(77,undef),(78,.bool false),(4,.bool false)]) (by kernel_rfl) ?_
       refine Qs.nil ?_
       intro w138 hS139
       have hS140:=hS139.drop
       have hS141:=hS140.drop
       have hS142:=hS141.drop
       have hS143:=hS142.drop
       have hS144:=hS143.less (Zm.Le.trans hz25 hz59)
       refine runs_ret (fn:=Tryd.f3) (v:=.bool false) Tryd.func3 (by kernel_rfl) ?_
       have hr145:=(Option.some.inj hp137)
       cases hr145
       exact hR _ _ ⟨rfl,hS144⟩
      ·skip
       have hp146:=ite_t hp132 rfl
       refine q_run 3 (is':=[31,32,33,34,35,36]) (us:=[(71,.slice A19 ((([] : List api_Pick) ++ a0) ++ ([(⟨5,0,0⟩ : api_Pick)] : List api_Pick)).length c20),(72,.slice Aa0 a0.length ca0),(73,.int .i64 (a0.length : Int))]) (by kernel_rfl) ?_
       obtain ⟨g147,hp148⟩:=ite_some hp146
       obtain ⟨b149,p150,hA151,hc152⟩:=hs27.atF g147.1 g147.2
       refine q_indexAddr (c:=p3_10) (i:=31) (d:=(some 74)) (ty:=0) (t:=22) (e:=24) (n:=((([] : List api_Pick) ++ a0) ++ ([(⟨5,0,0⟩ : api_Pick)] : List api_Pick)).length) (cp:=c20) (sz:=3) (kk:=.i64) (x:=(.tmp 71)) (y:=(.tmp 73)) (b:=b149) (o':=p150) (j:=(a0.length : Int)) (by kernel_rfl) (by kernel_rfl) (slv (by kernel_rfl) hA151) (by kernel_rfl) (by kernel_rfl) (by kernel_rfl) g147.1 g147.2 ?_
       refine q_run 1 (is':=[33,34,35,36]) (us:=[(75,.pointer (some ⟨b149,p150 + (a0.length : Int).toNat * 3,none⟩))]) (by kernel_rfl) ?_
       refine q_load (c:=p3_10) (i:=33) (d:=(some 76)) (ty:=3) (t:=3) (x:=(.tmp 75)) (p:=⟨b149,p150 + (a0.length : Int).toNat * 3,none⟩) (v:=.int .i64 ((gt ((([] : List api_Pick) ++ a0) ++ ([(⟨5,0,0⟩ : api_Pick)] : List api_Pick)) (a0.length : Int)).Thread)) (by kernel_rfl) (by kernel_rfl) (by kernel_rfl) (fun w hC => (loads_at 0 ((hc152.mono hz59).cells hC) (by kernel_rfl) (by kernel_rfl))) ?_
       refine q_splitr 1 (is':=[35,36]) (us:=[]) (d:=77) (t:=(((gt ((([] : List api_Pick) ++ a0) ++ ([(⟨5,0,0⟩ : api_Pick)] : List api_Pick)) (a0.length : Int)).Thread) == 5)) (by kernel_rfl) (fun h153 => ?_) (fun h154 => ?_)
       ·skip
        have hp155:=ite_t hp148 h153
        refine q_run 2 (is':=[]) (us:=[(78,.bool true),(4,.bool true)]) (by kernel_rfl) ?_
        refine Qs.nil ?_
        intro w156 hS157
        have hS158:=hS157.drop
        have hS159:=hS158.drop
        have hS160:=hS159.drop
        have hS161:=hS160.drop
        have hS162:=hS161.less (Zm.Le.trans hz25 hz59)
        refine runs_ret (fn:=Tryd.f3) (v:=.bool true) Tryd.func3 (by kernel_rfl) ?_
        have hr163:=(Option.some.inj hp155)
        cases hr163
        exact hR _ _ ⟨rfl,hS162⟩
       ·skip
        have hp164:=ite_f hp148 h154
        refine q_run 2 (is':=[]) (us:=[(78,.bool false),(4,.bool false)]) (by kernel_rfl) ?_
        refine Qs.nil ?_
        intro w165 hS166
        have hS167:=hS166.drop
        have hS168:=hS167.drop
        have hS169:=hS168.drop
        have hS170:=hS169.drop
        have hS171:=hS170.less (Zm.Le.trans hz25 hz59)
        refine runs_ret (fn:=Tryd.f3) (v:=.bool false) Tryd.func3 (by kernel_rfl) ?_
        have hr172:=(Option.some.inj hp164)
        cases hr172
        exact hR _ _ ⟨rfl,hS171⟩
     ·skip
      have hp173:=ite_f hp115 h121
      refine q_run 19 (is':=[]) (us:=[(61,.bool false),(62,.bool false),(63,undef),(64,undef),(65,undef),(66,undef),(67,undef),(68,undef),(69,.bool false),(70,.bool false),(71,undef),(72,undef),(73,undef),(74,undef),(75,undef),(76,undef),(77,undef),(78,.bool false),(4,.bool false)]) (by kernel_rfl) ?_
      refine Qs.nil ?_
      intro w174 hS175
      have hS176:=hS175.drop
      have hS177:=hS176.drop
      have hS178:=hS177.drop
      have hS179:=hS178.drop
      have hS180:=hS179.less (Zm.Le.trans hz25 hz59)
      refine runs_ret (fn:=Tryd.f3) (v:=.bool false) Tryd.func3 (by kernel_rfl) ?_
      have hr181:=(Option.some.inj hp173)
      cases hr181
      exact hR _ _ ⟨rfl,hS180⟩
   ·skip
    have hp182:=ite_f hp78 h80
    refine q_run 30 (is':=[]) (us:=[(50,.bool false),(51,.bool false),(52,undef),(53,undef),(54,undef),(55,.bool false),(56,.bool false),(57,undef),(58,undef),(59,undef),(60,undef),(61,.bool false),(62,.bool false),(63,undef),(64,undef),(65,undef),(66,undef),(67,undef),(68,undef),(69,.bool false),(70,.bool false),(71,undef),(72,undef),(73,undef),(74,undef),(75,undef),(76,undef),(77,undef),(78,.bool false),(4,.bool false)]) (by kernel_rfl) ?_
    refine Qs.nil ?_
    intro w183 hS184
    have hS185:=hS184.drop
    have hS186:=hS185.drop
    have hS187:=hS186.drop
    have hS188:=hS187.drop
    have hS189:=hS188.less (Zm.Le.trans hz25 hz59)
    refine runs_ret (fn:=Tryd.f3) (v:=.bool false) Tryd.func3 (by kernel_rfl) ?_
    have hr190:=(Option.some.inj hp182)
    cases hr190
    exact hR _ _ ⟨rfl,hS189⟩
  ·skip
   have hp191:=ite_f hp66 h77
   refine q_run 34 (is':=[]) (us:=[(46,.bool false),(47,undef),(48,undef),(49,undef),(50,.bool false),(51,.bool false),(52,undef),(53,undef),(54,undef),(55,.bool false),(56,.bool false),(57,undef),(58,undef),(59,undef),(60,undef),(61,.bool false),(62,.bool false),(63,undef),(64,undef),(65,undef),(66,undef),(67,undef),(68,undef),(69,.bool false),(70,.bool false),(71,undef),(72,undef),(73,undef),(74,undef),(75,undef),(76,undef),(77,undef),(78,.bool false),(4,.bool false)]) (by kernel_rfl) ?_
   refine Qs.nil ?_
   intro w192 hS193
   have hS194:=hS193.drop
   have hS195:=hS194.drop
   have hS196:=hS195.drop
   have hS197:=hS196.drop
   have hS198:=hS197.less (Zm.Le.trans hz25 hz59)
   refine runs_ret (fn:=Tryd.f3) (v:=.bool false) Tryd.func3 (by kernel_rfl) ?_
   have hr199:=(Option.some.inj hp191)
   cases hr199
   exact hR _ _ ⟨rfl,hS198⟩

end
end Go.Proofs.YtlapbgeklhinmaaDoor.K
