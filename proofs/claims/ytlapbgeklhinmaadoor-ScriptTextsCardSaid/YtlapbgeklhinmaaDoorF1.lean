/- The walk, part 1: each Go function as a plain Lean function, and that its call answers as that function says. No condition. -/
import Derived.Test.YtlapbgeklhinmaaDoorE
import Derived.Test.YtlapbgeklhinmaaDoorNG
import Derived.Test.YtlapbgeklhinmaaDoorNP
import Derived.Test.YtlapbgeklhinmaaDoorNV
import Derived.Test.YtlapbgeklhinmaaDoorNX
set_option linter.unusedVariables false
set_option linter.unusedSimpArgs false
set_option maxRecDepth 100000
namespace Go.Proofs.YtlapbgeklhinmaaDoor.K
open Go Go.RowKit
noncomputable section
noncomputable def cd20 (p : List Nat) : Code:=sub (bodyOf Tryd.f20) p
noncomputable abbrev p20_0 : Code:=cd20 [1,0]
noncomputable abbrev p20_1 : Code:=cd20 [1,1]
def word_Text.f (a0 : Int) : Option ByteArray :=
  (strconv_FormatInt.f a0 10 >>= (fun t1 => some (t1)))
set_option maxHeartbeats 16000000 in
theorem word_Text.ok (a0 : Int) {w0 : World} {Z : Zm} {fs : List XObj} {w : World} (hS0 : St w0 Z (fs) w) (hE : Env Z) {q0 : ByteArray} (hp0 : word_Text.f a0 = some q0) :
    Calls Tryd.prog 20 #[.int .i64 a0] w (fun e w' => e = .returned (.string q0) ∧ St w0 Z (fs) w'):=by
  refine calls_abs ?_; intro R hR
  unfold word_Text.f at hp0
  refine calls_of_runs (fn:=Tryd.f20) (c:=cd20 []) Tryd.func20 (by kernel_rfl) (al:=[.int .i64 a0]) rfl (n:=4) rfl ?_
  refine sx_run 7 (todo':=[.inRegion (opsOf p20_0) [1,2],.code p20_1]) (us:=[(2,.string (⟨#[]⟩ : ByteArray)),(3,.int .i64 a0)]) (by kernel_rfl) ?_
  obtain ⟨t1,hr2,hp3⟩:=bind_some' hp0
  refine r_call1 (c:=p20_0) (i:=1) (d:=(some 4)) (g:=29) (args:=#[.int .i64 a0,.int .i64 10]) (by kernel_rfl) (by kernel_rfl) (by kernel_rfl) (by kernel_rfl) (strconv_FormatInt.ok a0 10 hS0 hE hr2) ?_
  rintro _ w4 ⟨rfl,hS5⟩
  refine ⟨.string t1,rfl,?_⟩
  refine sx_run 2 (todo':=[.code p20_1]) (us:=[(2,.string t1)]) (by kernel_rfl) ?_
  refine runs_ret (fn:=Tryd.f20) (v:=.string t1) Tryd.func20 (by kernel_rfl) ?_
  have hr6:=(Option.some.inj hp3)
  cases hr6
  exact hR _ _ ⟨rfl,hS5⟩

noncomputable def cd10 (p : List Nat) : Code:=sub (bodyOf Tryd.f10) p
noncomputable abbrev p10_0 : Code:=cd10 [0]
noncomputable abbrev p10_1 : Code:=cd10 [1]
noncomputable abbrev p10_2 : Code:=cd10 [1,0,0]
noncomputable abbrev p10_3 : Code:=cd10 [1,0,1]
noncomputable abbrev p10_4 : Code:=cd10 [1,1]
noncomputable abbrev p10_5 : Code:=cd10 [1,0,1,0,1]
noncomputable abbrev p10_6 : Code:=cd10 [1,1,0]
noncomputable abbrev p10_7 : Code:=cd10 [1,1,1]
noncomputable abbrev p10_8 : Code:=cd10 [1,1,1,0,0,0]
noncomputable abbrev p10_9 : Code:=cd10 [1,1,1,0,0,1]
noncomputable abbrev p10_10 : Code:=cd10 [1,1,1,1]
noncomputable abbrev p10_11 : Code:=cd10 [1,1,1,0,0,1,0,0]
noncomputable abbrev p10_12 : Code:=cd10 [1,1,1,0,0,1,0,1]
noncomputable abbrev p10_13 : Code:=cd10 [1,1,1,0,0,1,1,0]
noncomputable abbrev p10_14 : Code:=cd10 [1,1,1,0,0,1,1,1]
noncomputable abbrev p10_15 : Code:=cd10 [1,1,1,0,0,1,1,1,0,0]
noncomputable abbrev p10_16 : Code:=cd10 [1,1,1,0,0,1,1,1,0,1]
noncomputable abbrev p10_17 : Code:=cd10 [1,1,1,0,0,1,1,1,1,0]
noncomputable abbrev p10_18 : Code:=cd10 [1,1,1,0,0,1,1,1,1,1]
noncomputable abbrev p10_19 : Code:=cd10 [1,1,1,0,0,1,1,1,1,1,0,0]
noncomputable abbrev p10_20 : Code:=cd10 [1,1,1,0,0,1,1,1,1,1,0,1]
noncomputable abbrev p10_21 : Code:=cd10 [1,1,1,1,1]
def script_one.f (a0 : api_Pick) : Option (ByteArray × Bool) :=
  (if (decide (a0.Thread < 0)) = true then some (((⟨#[]⟩ : ByteArray),false)) else (if (decide (a0.Thread > 9999)) = true then some (((⟨#[]⟩ : ByteArray),false)) else (if (decide (a0.Loc < 0)) = true then some (((⟨#[]⟩ : ByteArray),false)) else (if (decide (a0.Loc > 9999)) = true then some (((⟨#[]⟩ : ByteArray),false)) else (word_Text.f a0.Thread >>= (fun t29 => (if (a0.Kind == 1) = true then (if (a0.Loc == 0) = true then (if t29.size + (⟨#[58,115]⟩ : ByteArray).size ≤ 9223372036854775807 then some (((t29 ++ (⟨#[58,115]⟩ : ByteArray)),true)) else none) else (if (a0.Kind == 2) = true then (if (a0.Loc == 0) = true then (if t29.size + (⟨#[58,102]⟩ : ByteArray).size ≤ 9223372036854775807 then some (((t29 ++ (⟨#[58,102]⟩ : ByteArray)),true)) else none) else (if (a0.Kind == 2) = true then (if t29.size + (⟨#[58,102,58]⟩ : ByteArray).size ≤ 9223372036854775807 then (word_Text.f a0.Loc >>= (fun t61 => (if (t29 ++ (⟨#[58,102,58]⟩ : ByteArray)).size + t61.size ≤ 9223372036854775807 then some ((((t29 ++ (⟨#[58,102,58]⟩ : ByteArray)) ++ t61),true)) else none))) else none) else some (((⟨#[]⟩ : ByteArray),false)))) else (if (a0.Kind == 2) = true then (if t29.size + (⟨#[58,102,58]⟩ : ByteArray).size ≤ 9223372036854775807 then (word_Text.f a0.Loc >>= (fun t79 => (if (t29 ++ (⟨#[58,102,58]⟩ : ByteArray)).size + t79.size ≤ 9223372036854775807 then some ((((t29 ++ (⟨#[58,102,58]⟩ : ByteArray)) ++ t79),true)) else none))) else none) else some (((⟨#[]⟩ : ByteArray),false))))) else (if (a0.Kind == 2) = true then (if (a0.Loc == 0) = true then (if t29.size + (⟨#[58,102]⟩ : ByteArray).size ≤ 9223372036854775807 then some (((t29 ++ (⟨#[58,102]⟩ : ByteArray)),true)) else none) else (if (a0.Kind == 2) = true then (if t29.size + (⟨#[58,102,58]⟩ : ByteArray).size ≤ 9223372036854775807 then (word_Text.f a0.Loc >>= (fun t108 => (if (t29 ++ (⟨#[58,102,58]⟩ : ByteArray)).size + t108.size ≤ 9223372036854775807 then some ((((t29 ++ (⟨#[58,102,58]⟩ : ByteArray)) ++ t108),true)) else none))) else none) else some (((⟨#[]⟩ : ByteArray),false)))) else (if (a0.Kind == 2) = true then (if t29.size + (⟨#[58,102,58]⟩ : ByteArray).size ≤ 9223372036854775807 then (word_Text.f a0.Loc >>= (fun t126 => (if (t29 ++ (⟨#[58,102,58]⟩ : ByteArray)).size + t126.size ≤ 9223372036854775807 then some ((((t29 ++ (⟨#[58,102,58]⟩ : ByteArray)) ++ t126),true)) else none))) else none) else some (((⟨#[]⟩ : ByteArray),false)))))))))))
set_option maxHeartbeats 16000000 in
theorem script_one.ok (a0 : api_Pick) {w0 : World} {Z : Zm} {fs : List XObj} {w : World} (hS0 : St w0 Z (fs) w) (hE : Env Z) {q0 : ByteArray} {q1 : Bool} (hp0 : script_one.f a0 = some (q0,q1)) :
    Calls Tryd.prog 10 #[.agg (enc_api_Pick a0).toArray] w (fun e w' => e = .returned (.tuple #[.string q0,.bool q1]) ∧ St w0 Z (fs) w'):=by
  refine calls_abs ?_; intro R hR
  unfold script_one.f at hp0
  refine calls_of_runs (fn:=Tryd.f10) (c:=cd10 []) Tryd.func10 (by kernel_rfl) (al:=[.agg (enc_api_Pick a0).toArray]) rfl (n:=57) rfl ?_
  refine sx_run 2 (todo':=[.inRegion (opsOf p10_0) [0,1,2],.code p10_1]) (us:=[]) (by kernel_rfl) ?_
  refine r_box (c:=p10_0) (i:=0) (d:=(some 1)) (ty:=0) (x:=(.tmp 0)) (v:=.agg (enc_api_Pick a0).toArray) (t:=24) (cs:=enc_api_Pick a0) hS0 (by kernel_rfl) (by kernel_rfl) (by kernel_rfl) (by kernel_rfl) ?_
  intro b1 w2 hS3
  refine sx_run 7 (todo':=[.inRegion (opsOf p10_2) [1,2,3,4,5,6,7,8,9,10,11,12,13,14,15,16,17],.code p10_3,.code p10_4]) (us:=[(2,.string (⟨#[]⟩ : ByteArray)),(3,.bool false),(5,.pointer (some ⟨b1,0,none⟩))]) (by kernel_rfl) ?_
  refine r_load (c:=p10_2) (i:=1) (d:=(some 6)) (ty:=3) (t:=3) (x:=(.tmp 5)) (p:=⟨b1,0,none⟩) (v:=.int .i64 a0.Thread) (by kernel_rfl) (by kernel_rfl) (by kernel_rfl) (loads_at 0 (hS3.blk 0 rfl) (by kernel_rfl) (by kernel_rfl)) ?_
  refine sx_split 1 (todo':=[.inRegion (opsOf p10_2) [3,4,5,6,7,8,9,10,11,12,13,14,15,16,17],.code p10_3,.code p10_4]) (us:=[]) (d:=7) (t:=(decide (a0.Thread < 0))) (by kernel_rfl) (fun h5 => ?_) (fun h6 => ?_)
  ·skip
   have hp7:=ite_t hp0 h5
   refine sx_run 22 (todo':=[.code p10_5,.code p10_4]) (us:=[(8,.bool true),(9,undef),(10,undef),(11,undef),(12,.bool true),(13,.bool true),(14,undef),(15,undef),(16,undef),(17,.bool true),(18,.bool true),(19,undef),(20,undef),(21,undef),(22,.bool true),(2,.string (⟨#[]⟩ : ByteArray)),(3,.bool false)]) (by kernel_rfl) ?_
   have hS8:=hS3.drop
   refine runs_ret (fn:=Tryd.f10) (v:=.tuple #[.string (⟨#[]⟩ : ByteArray),.bool false]) Tryd.func10 (by kernel_rfl) ?_
   have hr9:=(Option.some.inj hp7)
   cases hr9
   exact hR _ _ ⟨rfl,hS8⟩
  ·skip
   have hp10:=ite_f hp0 h6
   refine sx_run 2 (todo':=[.inRegion (opsOf p10_2) [5,6,7,8,9,10,11,12,13,14,15,16,17],.code p10_3,.code p10_4]) (us:=[(8,.bool false),(9,.pointer (some ⟨b1,0,none⟩))]) (by kernel_rfl) ?_
   refine r_load (c:=p10_2) (i:=5) (d:=(some 10)) (ty:=3) (t:=3) (x:=(.tmp 9)) (p:=⟨b1,0,none⟩) (v:=.int .i64 a0.Thread) (by kernel_rfl) (by kernel_rfl) (by kernel_rfl) (loads_at 0 (hS3.blk 0 rfl) (by kernel_rfl) (by kernel_rfl)) ?_
   refine sx_split 1 (todo':=[.inRegion (opsOf p10_2) [7,8,9,10,11,12,13,14,15,16,17],.code p10_3,.code p10_4]) (us:=[]) (d:=11) (t:=(decide (a0.Thread > 9999))) (by kernel_rfl) (fun h11 => ?_) (fun h12 => ?_)
   ·skip
    have hp13:=ite_t hp10 h11
    refine sx_run 18 (todo':=[.code p10_5,.code p10_4]) (us:=[(12,.bool true),(13,.bool true),(14,undef),(15,undef),(16,undef),(17,.bool true),(18,.bool true),(19,undef),(20,undef),(21,undef),(22,.bool true),(2,.string (⟨#[]⟩ : ByteArray)),(3,.bool false)]) (by kernel_rfl) ?_
    have hS14:=hS3.drop
    refine runs_ret (fn:=Tryd.f10) (v:=.tuple #[.string (⟨#[]⟩ : ByteArray),.bool false]) Tryd.func10 (by kernel_rfl) ?_
    have hr15:=(Option.some.inj hp13)
    cases hr15
    exact hR _ _ ⟨rfl,hS14⟩
   ·skip
    have hp16:=ite_f hp10 h12
    refine sx_run 3 (todo':=[.inRegion (opsOf p10_2) [10,11,12,13,14,15,16,17],.code p10_3,.code p10_4]) (us:=[(12,.bool false),(13,.bool false),(14,.pointer (some ⟨b1,2,none⟩))]) (by kernel_rfl) ?_
    refine r_load (c:=p10_2) (i:=10) (d:=(some 15)) (ty:=3) (t:=3) (x:=(.tmp 14)) (p:=⟨b1,2,none⟩) (v:=.int .i64 a0.Loc) (by kernel_rfl) (by kernel_rfl) (by kernel_rfl) (loads_at 2 (hS3.blk 0 rfl) (by kernel_rfl) (by kernel_rfl)) ?_
    refine sx_split 1 (todo':=[.inRegion (opsOf p10_2) [12,13,14,15,16,17],.code p10_3,.code p10_4]) (us:=[]) (d:=16) (t:=(decide (a0.Loc < 0))) (by kernel_rfl) (fun h17 => ?_) (fun h18 => ?_)
    ·skip
     have hp19:=ite_t hp16 h17
     refine sx_run 13 (todo':=[.code p10_5,.code p10_4]) (us:=[(17,.bool true),(18,.bool true),(19,undef),(20,undef),(21,undef),(22,.bool true),(2,.string (⟨#[]⟩ : ByteArray)),(3,.bool false)]) (by kernel_rfl) ?_
     have hS20:=hS3.drop
     refine runs_ret (fn:=Tryd.f10) (v:=.tuple #[.string (⟨#[]⟩ : ByteArray),.bool false]) Tryd.func10 (by kernel_rfl) ?_
     have hr21:=(Option.some.inj hp19)
     cases hr21
     exact hR _ _ ⟨rfl,hS20⟩
    ·skip
     have hp22:=ite_f hp16 h18
     refine sx_run 3 (todo':=[.inRegion (opsOf p10_2) [15,16,17],.code p10_3,.code p10_4]) (us:=[(17,.bool false),(18,.bool false),(19,.pointer (some ⟨b1,2,none⟩))]) (by kernel_rfl) ?_
     refine r_load (c:=p10_2) (i:=15) (d:=(some 20)) (ty:=3) (t:=3) (x:=(.tmp 19)) (p:=⟨b1,2,none⟩) (v:=.int .i64 a0.Loc) (by kernel_rfl) (by kernel_rfl) (by kernel_rfl) (loads_at 2 (hS3.blk 0 rfl) (by kernel_rfl) (by kernel_rfl)) ?_
     refine sx_split 1 (todo':=[.inRegion (opsOf p10_2) [17],.code p10_3,.code p10_4]) (us:=[]) (d:=21) (t:=(decide (a0.Loc > 9999))) (by kernel_rfl) (fun h23 => ?_) (fun h24 => ?_)
     ·skip
      have hp25:=ite_t hp22 h23
      refine sx_run 8 (todo':=[.code p10_5,.code p10_4]) (us:=[(22,.bool true),(2,.string (⟨#[]⟩ : ByteArray)),(3,.bool false)]) (by kernel_rfl) ?_
      have hS26:=hS3.drop
      refine runs_ret (fn:=Tryd.f10) (v:=.tuple #[.string (⟨#[]⟩ : ByteArray),.bool false]) Tryd.func10 (by kernel_rfl) ?_
      have hr27:=(Option.some.inj hp25)
      cases hr27
      exact hR _ _ ⟨rfl,hS26⟩
     ·skip
      have hp28:=ite_f hp22 h24
      refine sx_run 7 (todo':=[.inRegion (opsOf p10_6) [1,2,3],.code p10_7]) (us:=[(22,.bool false),(23,.pointer (some ⟨b1,0,none⟩))]) (by kernel_rfl) ?_
      refine r_load (c:=p10_6) (i:=1) (d:=(some 24)) (ty:=3) (t:=3) (x:=(.tmp 23)) (p:=⟨b1,0,none⟩) (v:=.int .i64 a0.Thread) (by kernel_rfl) (by kernel_rfl) (by kernel_rfl) (loads_at 0 (hS3.blk 0 rfl) (by kernel_rfl) (by kernel_rfl)) ?_
      obtain ⟨t29,hr30,hp31⟩:=bind_some' hp28
      refine r_call1 (c:=p10_6) (i:=2) (d:=(some 25)) (g:=20) (args:=#[.int .i64 a0.Thread]) (by kernel_rfl) (by kernel_rfl) (by kernel_rfl) (by kernel_rfl) (word_Text.ok a0.Thread hS3 hE hr30) ?_
      rintro _ w32 ⟨rfl,hS33⟩
      refine ⟨.string t29,rfl,?_⟩
      refine sx_run 7 (todo':=[.inRegion (opsOf p10_8) [1,2,3,4,5,6,7,8],.code p10_9,.inBlock 0,.code p10_10]) (us:=[(4,.string t29),(27,.pointer (some ⟨b1,1,none⟩))]) (by kernel_rfl) ?_
      refine r_load (c:=p10_8) (i:=1) (d:=(some 28)) (ty:=3) (t:=3) (x:=(.tmp 27)) (p:=⟨b1,1,none⟩) (v:=.int .i64 a0.Kind) (by kernel_rfl) (by kernel_rfl) (by kernel_rfl) (loads_at 1 (hS33.blk 0 rfl) (by kernel_rfl) (by kernel_rfl)) ?_
      refine sx_split 1 (todo':=[.inRegion (opsOf p10_8) [3,4,5,6,7,8],.code p10_9,.inBlock 0,.code p10_10]) (us:=[]) (d:=29) (t:=(a0.Kind == 1)) (by kernel_rfl) (fun h34 => ?_) (fun h35 => ?_)
      ·skip
       have hp36:=ite_t hp31 h34
       refine sx_run 2 (todo':=[.inRegion (opsOf p10_8) [5,6,7,8],.code p10_9,.inBlock 0,.code p10_10]) (us:=[(30,.bool true),(31,.pointer (some ⟨b1,2,none⟩))]) (by kernel_rfl) ?_
       refine r_load (c:=p10_8) (i:=5) (d:=(some 32)) (ty:=3) (t:=3) (x:=(.tmp 31)) (p:=⟨b1,2,none⟩) (v:=.int .i64 a0.Loc) (by kernel_rfl) (by kernel_rfl) (by kernel_rfl) (loads_at 2 (hS33.blk 0 rfl) (by kernel_rfl) (by kernel_rfl)) ?_
       refine sx_split 1 (todo':=[.inRegion (opsOf p10_8) [7,8],.code p10_9,.inBlock 0,.code p10_10]) (us:=[]) (d:=33) (t:=(a0.Loc == 0)) (by kernel_rfl) (fun h37 => ?_) (fun h38 => ?_)
       ·skip
        have hp39:=ite_t hp36 h37
        refine sx_run 7 (todo':=[.inRegion (opsOf p10_11) [1,2,3],.code p10_12,.inBlock 0,.code p10_10]) (us:=[(34,.bool true),(26,.bool true),(35,.string t29)]) (by kernel_rfl) ?_
        obtain ⟨g40,hp41⟩:=ite_some hp39
        refine r_val (c:=p10_11) (i:=1) (d:=(some 36)) (ty:=9) (op:=.binOp .add 9 (.tmp 35) (.const (.string (⟨#[58,115]⟩ : ByteArray))) 9) (v:=.string (t29 ++ (⟨#[58,115]⟩ : ByteArray))) (by kernel_rfl) (by kernel_rfl) (fun o ho _ => x_concat (by kernel_rfl) (by kernel_rfl) g40 ho) ?_
        refine sx_run 3 (todo':=[.code p10_12,.inBlock 0,.code p10_10]) (us:=[(2,.string (t29 ++ (⟨#[58,115]⟩ : ByteArray))),(3,.bool true)]) (by kernel_rfl) ?_
        have hS42:=hS33.drop
        refine runs_ret (fn:=Tryd.f10) (v:=.tuple #[.string (t29 ++ (⟨#[58,115]⟩ : ByteArray)),.bool true]) Tryd.func10 (by kernel_rfl) ?_
        have hr43:=(Option.some.inj hp41)
        cases hr43
        exact hR _ _ ⟨rfl,hS42⟩
       ·skip
        have hp44:=ite_f hp36 h38
        refine sx_run 7 (todo':=[.inRegion (opsOf p10_13) [1,2,3,4,5,6,7,8],.code p10_14,.inBlock 0,.code p10_10]) (us:=[(34,.bool false),(26,.bool false),(38,.pointer (some ⟨b1,1,none⟩))]) (by kernel_rfl) ?_
        refine r_load (c:=p10_13) (i:=1) (d:=(some 39)) (ty:=3) (t:=3) (x:=(.tmp 38)) (p:=⟨b1,1,none⟩) (v:=.int .i64 a0.Kind) (by kernel_rfl) (by kernel_rfl) (by kernel_rfl) (loads_at 1 (hS33.blk 0 rfl) (by kernel_rfl) (by kernel_rfl)) ?_
        refine sx_split 1 (todo':=[.inRegion (opsOf p10_13) [3,4,5,6,7,8],.code p10_14,.inBlock 0,.code p10_10]) (us:=[]) (d:=40) (t:=(a0.Kind == 2)) (by kernel_rfl) (fun h45 => ?_) (fun h46 => ?_)
        ·skip
         have hp47:=ite_t hp44 h45
         refine sx_run 2 (todo':=[.inRegion (opsOf p10_13) [5,6,7,8],.code p10_14,.inBlock 0,.code p10_10]) (us:=[(41,.bool true),(42,.pointer (some ⟨b1,2,none⟩))]) (by kernel_rfl) ?_
         refine r_load (c:=p10_13) (i:=5) (d:=(some 43)) (ty:=3) (t:=3) (x:=(.tmp 42)) (p:=⟨b1,2,none⟩) (v:=.int .i64 a0.Loc) (by kernel_rfl) (by kernel_rfl) (by kernel_rfl) (loads_at 2 (hS33.blk 0 rfl) (by kernel_rfl) (by kernel_rfl)) ?_
         refine sx_split 1 (todo':=[.inRegion (opsOf p10_13) [7,8],.code p10_14,.inBlock 0,.code p10_10]) (us:=[]) (d:=44) (t:=(a0.Loc == 0)) (by kernel_rfl) (fun h48 => ?_) (fun h49 => ?_)
         ·skip
          have hp50:=ite_t hp47 h48
          refine sx_run 7 (todo':=[.inRegion (opsOf p10_15) [1,2,3],.code p10_16,.inBlock 0,.code p10_10]) (us:=[(45,.bool true),(37,.bool true),(46,.string t29)]) (by kernel_rfl) ?_
          obtain ⟨g51,hp52⟩:=ite_some hp50
          refine r_val (c:=p10_15) (i:=1) (d:=(some 47)) (ty:=9) (op:=.binOp .add 9 (.tmp 46) (.const (.string (⟨#[58,102]⟩ : ByteArray))) 9) (v:=.string (t29 ++ (⟨#[58,102]⟩ : ByteArray))) (by kernel_rfl) (by kernel_rfl) (fun o ho _ => x_concat (by kernel_rfl) (by kernel_rfl) g51 ho) ?_
          refine sx_run 3 (todo':=[.code p10_16,.inBlock 0,.code p10_10]) (us:=[(2,.string (t29 ++ (⟨#[58,102]⟩ : ByteArray))),(3,.bool true)]) (by kernel_rfl) ?_
          have hS53:=hS33.drop
          refine runs_ret (fn:=Tryd.f10) (v:=.tuple #[.string (t29 ++ (⟨#[58,102]⟩ : ByteArray)),.bool true]) Tryd.func10 (by kernel_rfl) ?_
          have hr54:=(Option.some.inj hp52)
          cases hr54
          exact hR _ _ ⟨rfl,hS53⟩
         ·skip
          have hp55:=ite_f hp47 h49
          refine sx_run 7 (todo':=[.inRegion (opsOf p10_17) [1,2,3],.code p10_18,.inBlock 0,.code p10_10]) (us:=[(45,.bool false),(37,.bool false),(49,.pointer (some ⟨b1,1,none⟩))]) (by kernel_rfl) ?_
          refine r_load (c:=p10_17) (i:=1) (d:=(some 50)) (ty:=3) (t:=3) (x:=(.tmp 49)) (p:=⟨b1,1,none⟩) (v:=.int .i64 a0.Kind) (by kernel_rfl) (by kernel_rfl) (by kernel_rfl) (loads_at 1 (hS33.blk 0 rfl) (by kernel_rfl) (by kernel_rfl)) ?_
          refine sx_split 1 (todo':=[.inRegion (opsOf p10_17) [3],.code p10_18,.inBlock 0,.code p10_10]) (us:=[]) (d:=51) (t:=(a0.Kind == 2)) (by kernel_rfl) (fun h56 => ?_) (fun h57 => ?_)
          ·skip
           have hp58:=ite_t hp55 h56
           refine sx_run 6 (todo':=[.inRegion (opsOf p10_19) [1,2,3,4,5,6,7],.code p10_20,.inBlock 0,.code p10_10]) (us:=[(48,.bool true),(52,.string t29)]) (by kernel_rfl) ?_
           obtain ⟨g59,hp60⟩:=ite_some hp58
           refine r_val (c:=p10_19) (i:=1) (d:=(some 53)) (ty:=9) (op:=.binOp .add 9 (.tmp 52) (.const (.string (⟨#[58,102,58]⟩ : ByteArray))) 9) (v:=.string (t29 ++ (⟨#[58,102,58]⟩ : ByteArray))) (by kernel_rfl) (by kernel_rfl) (fun o ho _ => x_concat (by kernel_rfl) (by kernel_rfl) g59 ho) ?_
           refine sx_run 1 (todo':=[.inRegion (opsOf p10_19) [3,4,5,6,7],.code p10_20,.inBlock 0,.code p10_10]) (us:=[(54,.pointer (some ⟨b1,2,none⟩))]) (by kernel_rfl) ?_
           refine r_load (c:=p10_19) (i:=3) (d:=(some 55)) (ty:=3) (t:=3) (x:=(.tmp 54)) (p:=⟨b1,2,none⟩) (v:=.int .i64 a0.Loc) (by kernel_rfl) (by kernel_rfl) (by kernel_rfl) (loads_at 2 (hS33.blk 0 rfl) (by kernel_rfl) (by kernel_rfl)) ?_
           obtain ⟨t61,hr62,hp63⟩:=bind_some' hp60
           refine r_call1 (c:=p10_19) (i:=4) (d:=(some 56)) (g:=20) (args:=#[.int .i64 a0.Loc]) (by kernel_rfl) (by kernel_rfl) (by kernel_rfl) (by kernel_rfl) (word_Text.ok a0.Loc hS33 hE hr62) ?_
           rintro _ w64 ⟨rfl,hS65⟩
           refine ⟨.string t61,rfl,?_⟩
           obtain ⟨g66,hp67⟩:=ite_some hp63
           refine r_val (c:=p10_19) (i:=5) (d:=(some 57)) (ty:=9) (op:=.binOp .add 9 (.tmp 53) (.tmp 56) 9) (v:=.string ((t29 ++ (⟨#[58,102,58]⟩ : ByteArray)) ++ t61)) (by kernel_rfl) (by kernel_rfl) (fun o ho _ => x_concat (by kernel_rfl) (by kernel_rfl) g66 ho) ?_
           refine sx_run 3 (todo':=[.code p10_20,.inBlock 0,.code p10_10]) (us:=[(2,.string ((t29 ++ (⟨#[58,102,58]⟩ : ByteArray)) ++ t61)),(3,.bool true)]) (by kernel_rfl) ?_
           have hS68:=hS65.drop
           refine runs_ret (fn:=Tryd.f10) (v:=.tuple #[.string ((t29 ++ (⟨#[58,102,58]⟩ : ByteArray)) ++ t61),.bool true]) Tryd.func10 (by kernel_rfl) ?_
           have hr69:=(Option.some.inj hp67)
           cases hr69
           exact hR _ _ ⟨rfl,hS68⟩
          ·skip
           have hp70:=ite_f hp55 h57
           refine sx_run 10 (todo':=[.code p10_21]) (us:=[(48,.bool false),(2,.string (⟨#[]⟩ : ByteArray)),(3,.bool false)]) (by kernel_rfl) ?_
           have hS71:=hS33.drop
           refine runs_ret (fn:=Tryd.f10) (v:=.tuple #[.string (⟨#[]⟩ : ByteArray),.bool false]) Tryd.func10 (by kernel_rfl) ?_
           have hr72:=(Option.some.inj hp70)
           cases hr72
           exact hR _ _ ⟨rfl,hS71⟩
        ·skip
         have hp73:=ite_f hp44 h46
         refine sx_run 11 (todo':=[.inRegion (opsOf p10_17) [1,2,3],.code p10_18,.inBlock 0,.code p10_10]) (us:=[(41,.bool false),(42,undef),(43,undef),(44,undef),(45,.bool false),(37,.bool false),(49,.pointer (some ⟨b1,1,none⟩))]) (by kernel_rfl) ?_
         refine r_load (c:=p10_17) (i:=1) (d:=(some 50)) (ty:=3) (t:=3) (x:=(.tmp 49)) (p:=⟨b1,1,none⟩) (v:=.int .i64 a0.Kind) (by kernel_rfl) (by kernel_rfl) (by kernel_rfl) (loads_at 1 (hS33.blk 0 rfl) (by kernel_rfl) (by kernel_rfl)) ?_
         refine sx_split 1 (todo':=[.inRegion (opsOf p10_17) [3],.code p10_18,.inBlock 0,.code p10_10]) (us:=[]) (d:=51) (t:=(a0.Kind == 2)) (by kernel_rfl) (fun h74 => ?_) (fun h75 => ?_)
         ·skip
          have hp76:=ite_t hp73 h74
          refine sx_run 6 (todo':=[.inRegion (opsOf p10_19) [1,2,3,4,5,6,7],.code p10_20,.inBlock 0,.code p10_10]) (us:=[(48,.bool true),(52,.string t29)]) (by kernel_rfl) ?_
          obtain ⟨g77,hp78⟩:=ite_some hp76
          refine r_val (c:=p10_19) (i:=1) (d:=(some 53)) (ty:=9) (op:=.binOp .add 9 (.tmp 52) (.const (.string (⟨#[58,102,58]⟩ : ByteArray))) 9) (v:=.string (t29 ++ (⟨#[58,102,58]⟩ : ByteArray))) (by kernel_rfl) (by kernel_rfl) (fun o ho _ => x_concat (by kernel_rfl) (by kernel_rfl) g77 ho) ?_
          refine sx_run 1 (todo':=[.inRegion (opsOf p10_19) [3,4,5,6,7],.code p10_20,.inBlock 0,.code p10_10]) (us:=[(54,.pointer (some ⟨b1,2,none⟩))]) (by kernel_rfl) ?_
          refine r_load (c:=p10_19) (i:=3) (d:=(some 55)) (ty:=3) (t:=3) (x:=(.tmp 54)) (p:=⟨b1,2,none⟩) (v:=.int .i64 a0.Loc) (by kernel_rfl) (by kernel_rfl) (by kernel_rfl) (loads_at 2 (hS33.blk 0 rfl) (by kernel_rfl) (by kernel_rfl)) ?_
          obtain ⟨t79,hr80,hp81⟩:=bind_some' hp78
          refine r_call1 (c:=p10_19) (i:=4) (d:=(some 56)) (g:=20) (args:=#[.int .i64 a0.Loc]) (by kernel_rfl) (by kernel_rfl) (by kernel_rfl) (by kernel_rfl) (word_Text.ok a0.Loc hS33 hE hr80) ?_
          rintro _ w82 ⟨rfl,hS83⟩
          refine ⟨.string t79,rfl,?_⟩
          obtain ⟨g84,hp85⟩:=ite_some hp81
          refine r_val (c:=p10_19) (i:=5) (d:=(some 57)) (ty:=9) (op:=.binOp .add 9 (.tmp 53) (.tmp 56) 9) (v:=.string ((t29 ++ (⟨#[58,102,58]⟩ : ByteArray)) ++ t79)) (by kernel_rfl) (by kernel_rfl) (fun o ho _ => x_concat (by kernel_rfl) (by kernel_rfl) g84 ho) ?_
          refine sx_run 3 (todo':=[.code p10_20,.inBlock 0,.code p10_10]) (us:=[(2,.string ((t29 ++ (⟨#[58,102,58]⟩ : ByteArray)) ++ t79)),(3,.bool true)]) (by kernel_rfl) ?_
          have hS86:=hS83.drop
          refine runs_ret (fn:=Tryd.f10) (v:=.tuple #[.string ((t29 ++ (⟨#[58,102,58]⟩ : ByteArray)) ++ t79),.bool true]) Tryd.func10 (by kernel_rfl) ?_
          have hr87:=(Option.some.inj hp85)
          cases hr87
          exact hR _ _ ⟨rfl,hS86⟩
         ·skip
          have hp88:=ite_f hp73 h75
          refine sx_run 10 (todo':=[.code p10_21]) (us:=[(48,.bool false),(2,.string (⟨#[]⟩ : ByteArray)),(3,.bool false)]) (by kernel_rfl) ?_
          have hS89:=hS33.drop
          refine runs_ret (fn:=Tryd.f10) (v:=.tuple #[.string (⟨#[]⟩ : ByteArray),.bool false]) Tryd.func10 (by kernel_rfl) ?_
          have hr90:=(Option.some.inj hp88)
          cases hr90
          exact hR _ _ ⟨rfl,hS89⟩
      ·skip
       have hp91:=ite_f hp31 h35
       refine sx_run 11 (todo':=[.inRegion (opsOf p10_13) [1,2,3,4,5,6,7,8],.code p10_14,.inBlock 0,.code p10_10]) (us:=[(30,.bool false),(31,undef),(32,undef),(33,undef),(34,.bool false),(26,.bool false),(38,.pointer (some ⟨b1,1,none⟩))]) (by kernel_rfl) ?_
       refine r_load (c:=p10_13) (i:=1) (d:=(some 39)) (ty:=3) (t:=3) (x:=(.tmp 38)) (p:=⟨b1,1,none⟩) (v:=.int .i64 a0.Kind) (by kernel_rfl) (by kernel_rfl) (by kernel_rfl) (loads_at 1 (hS33.blk 0 rfl) (by kernel_rfl) (by kernel_rfl)) ?_
       refine sx_split 1 (todo':=[.inRegion (opsOf p10_13) [3,4,5,6,7,8],.code p10_14,.inBlock 0,.code p10_10]) (us:=[]) (d:=40) (t:=(a0.Kind == 2)) (by kernel_rfl) (fun h92 => ?_) (fun h93 => ?_)
       ·skip
        have hp94:=ite_t hp91 h92
        refine sx_run 2 (todo':=[.inRegion (opsOf p10_13) [5,6,7,8],.code p10_14,.inBlock 0,.code p10_10]) (us:=[(41,.bool true),(42,.pointer (some ⟨b1,2,none⟩))]) (by kernel_rfl) ?_
        refine r_load (c:=p10_13) (i:=5) (d:=(some 43)) (ty:=3) (t:=3) (x:=(.tmp 42)) (p:=⟨b1,2,none⟩) (v:=.int .i64 a0.Loc) (by kernel_rfl) (by kernel_rfl) (by kernel_rfl) (loads_at 2 (hS33.blk 0 rfl) (by kernel_rfl) (by kernel_rfl)) ?_
        refine sx_split 1 (todo':=[.inRegion (opsOf p10_13) [7,8],.code p10_14,.inBlock 0,.code p10_10]) (us:=[]) (d:=44) (t:=(a0.Loc == 0)) (by kernel_rfl) (fun h95 => ?_) (fun h96 => ?_)
        ·skip
         have hp97:=ite_t hp94 h95
         refine sx_run 7 (todo':=[.inRegion (opsOf p10_15) [1,2,3],.code p10_16,.inBlock 0,.code p10_10]) (us:=[(45,.bool true),(37,.bool true),(46,.string t29)]) (by kernel_rfl) ?_
         obtain ⟨g98,hp99⟩:=ite_some hp97
         refine r_val (c:=p10_15) (i:=1) (d:=(some 47)) (ty:=9) (op:=.binOp .add 9 (.tmp 46) (.const (.string (⟨#[58,102]⟩ : ByteArray))) 9) (v:=.string (t29 ++ (⟨#[58,102]⟩ : ByteArray))) (by kernel_rfl) (by kernel_rfl) (fun o ho _ => x_concat (by kernel_rfl) (by kernel_rfl) g98 ho) ?_
         refine sx_run 3 (todo':=[.code p10_16,.inBlock 0,.code p10_10]) (us:=[(2,.string (t29 ++ (⟨#[58,102]⟩ : ByteArray))),(3,.bool true)]) (by kernel_rfl) ?_
         have hS100:=hS33.drop
         refine runs_ret (fn:=Tryd.f10) (v:=.tuple #[.string (t29 ++ (⟨#[58,102]⟩ : ByteArray)),.bool true]) Tryd.func10 (by kernel_rfl) ?_
         have hr101:=(Option.some.inj hp99)
         cases hr101
         exact hR _ _ ⟨rfl,hS100⟩
        ·skip
         have hp102:=ite_f hp94 h96
         refine sx_run 7 (todo':=[.inRegion (opsOf p10_17) [1,2,3],.code p10_18,.inBlock 0,.code p10_10]) (us:=[(45,.bool false),(37,.bool false),(49,.pointer (some ⟨b1,1,none⟩))]) (by kernel_rfl) ?_
         refine r_load (c:=p10_17) (i:=1) (d:=(some 50)) (ty:=3) (t:=3) (x:=(.tmp 49)) (p:=⟨b1,1,none⟩) (v:=.int .i64 a0.Kind) (by kernel_rfl) (by kernel_rfl) (by kernel_rfl) (loads_at 1 (hS33.blk 0 rfl) (by kernel_rfl) (by kernel_rfl)) ?_
         refine sx_split 1 (todo':=[.inRegion (opsOf p10_17) [3],.code p10_18,.inBlock 0,.code p10_10]) (us:=[]) (d:=51) (t:=(a0.Kind == 2)) (by kernel_rfl) (fun h103 => ?_) (fun h104 => ?_)
         ·skip
          have hp105:=ite_t hp102 h103
          refine sx_run 6 (todo':=[.inRegion (opsOf p10_19) [1,2,3,4,5,6,7],.code p10_20,.inBlock 0,.code p10_10]) (us:=[(48,.bool true),(52,.string t29)]) (by kernel_rfl) ?_
          obtain ⟨g106,hp107⟩:=ite_some hp105
          refine r_val (c:=p10_19) (i:=1) (d:=(some 53)) (ty:=9) (op:=.binOp .add 9 (.tmp 52) (.const (.string (⟨#[58,102,58]⟩ : ByteArray))) 9) (v:=.string (t29 ++ (⟨#[58,102,58]⟩ : ByteArray))) (by kernel_rfl) (by kernel_rfl) (fun o ho _ => x_concat (by kernel_rfl) (by kernel_rfl) g106 ho) ?_
          refine sx_run 1 (todo':=[.inRegion (opsOf p10_19) [3,4,5,6,7],.code p10_20,.inBlock 0,.code p10_10]) (us:=[(54,.pointer (some ⟨b1,2,none⟩))]) (by kernel_rfl) ?_
          refine r_load (c:=p10_19) (i:=3) (d:=(some 55)) (ty:=3) (t:=3) (x:=(.tmp 54)) (p:=⟨b1,2,none⟩) (v:=.int .i64 a0.Loc) (by kernel_rfl) (by kernel_rfl) (by kernel_rfl) (loads_at 2 (hS33.blk 0 rfl) (by kernel_rfl) (by kernel_rfl)) ?_
          obtain ⟨t108,hr109,hp110⟩:=bind_some' hp107
          refine r_call1 (c:=p10_19) (i:=4) (d:=(some 56)) (g:=20) (args:=#[.int .i64 a0.Loc]) (by kernel_rfl) (by kernel_rfl) (by kernel_rfl) (by kernel_rfl) (word_Text.ok a0.Loc hS33 hE hr109) ?_
          rintro _ w111 ⟨rfl,hS112⟩
          refine ⟨.string t108,rfl,?_⟩
          obtain ⟨g113,hp114⟩:=ite_some hp110
          refine r_val (c:=p10_19) (i:=5) (d:=(some 57)) (ty:=9) (op:=.binOp .add 9 (.tmp 53) (.tmp 56) 9) (v:=.string ((t29 ++ (⟨#[58,102,58]⟩ : ByteArray)) ++ t108)) (by kernel_rfl) (by kernel_rfl) (fun o ho _ => x_concat (by kernel_rfl) (by kernel_rfl) g113 ho) ?_
          refine sx_run 3 (todo':=[.code p10_20,.inBlock 0,.code p10_10]) (us:=[(2,.string ((t29 ++ (⟨#[58,102,58]⟩ : ByteArray)) ++ t108)),(3,.bool true)]) (by kernel_rfl) ?_
          have hS115:=hS112.drop
          refine runs_ret (fn:=Tryd.f10) (v:=.tuple #[.string ((t29 ++ (⟨#[58,102,58]⟩ : ByteArray)) ++ t108),.bool true]) Tryd.func10 (by kernel_rfl) ?_
          have hr116:=(Option.some.inj hp114)
          cases hr116
          exact hR _ _ ⟨rfl,hS115⟩
         ·skip
          have hp117:=ite_f hp102 h104
          refine sx_run 10 (todo':=[.code p10_21]) (us:=[(48,.bool false),(2,.string (⟨#[]⟩ : ByteArray)),(3,.bool false)]) (by kernel_rfl) ?_
          have hS118:=hS33.drop
          refine runs_ret (fn:=Tryd.f10) (v:=.tuple #[.string (⟨#[]⟩ : ByteArray),.bool false]) Tryd.func10 (by kernel_rfl) ?_
          have hr119:=(Option.some.inj hp117)
          cases hr119
          exact hR _ _ ⟨rfl,hS118⟩
       ·skip
        have hp120:=ite_f hp91 h93
        refine sx_run 11 (todo':=[.inRegion (opsOf p10_17) [1,2,3],.code p10_18,.inBlock 0,.code p10_10]) (us:=[(41,.bool false),(42,undef),(43,undef),(44,undef),(45,.bool false),(37,.bool false),(49,.pointer (some ⟨b1,1,none⟩))]) (by kernel_rfl) ?_
        refine r_load (c:=p10_17) (i:=1) (d:=(some 50)) (ty:=3) (t:=3) (x:=(.tmp 49)) (p:=⟨b1,1,none⟩) (v:=.int .i64 a0.Kind) (by kernel_rfl) (by kernel_rfl) (by kernel_rfl) (loads_at 1 (hS33.blk 0 rfl) (by kernel_rfl) (by kernel_rfl)) ?_
        refine sx_split 1 (todo':=[.inRegion (opsOf p10_17) [3],.code p10_18,.inBlock 0,.code p10_10]) (us:=[]) (d:=51) (t:=(a0.Kind == 2)) (by kernel_rfl) (fun h121 => ?_) (fun h122 => ?_)
        ·skip
         have hp123:=ite_t hp120 h121
         refine sx_run 6 (todo':=[.inRegion (opsOf p10_19) [1,2,3,4,5,6,7],.code p10_20,.inBlock 0,.code p10_10]) (us:=[(48,.bool true),(52,.string t29)]) (by kernel_rfl) ?_
         obtain ⟨g124,hp125⟩:=ite_some hp123
         refine r_val (c:=p10_19) (i:=1) (d:=(some 53)) (ty:=9) (op:=.binOp .add 9 (.tmp 52) (.const (.string (⟨#[58,102,58]⟩ : ByteArray))) 9) (v:=.string (t29 ++ (⟨#[58,102,58]⟩ : ByteArray))) (by kernel_rfl) (by kernel_rfl) (fun o ho _ => x_concat (by kernel_rfl) (by kernel_rfl) g124 ho) ?_
         refine sx_run 1 (todo':=[.inRegion (opsOf p10_19) [3,4,5,6,7],.code p10_20,.inBlock 0,.code p10_10]) (us:=[(54,.pointer (some ⟨b1,2,none⟩))]) (by kernel_rfl) ?_
         refine r_load (c:=p10_19) (i:=3) (d:=(some 55)) (ty:=3) (t:=3) (x:=(.tmp 54)) (p:=⟨b1,2,none⟩) (v:=.int .i64 a0.Loc) (by kernel_rfl) (by kernel_rfl) (by kernel_rfl) (loads_at 2 (hS33.blk 0 rfl) (by kernel_rfl) (by kernel_rfl)) ?_
         obtain ⟨t126,hr127,hp128⟩:=bind_some' hp125
         refine r_call1 (c:=p10_19) (i:=4) (d:=(some 56)) (g:=20) (args:=#[.int .i64 a0.Loc]) (by kernel_rfl) (by kernel_rfl) (by kernel_rfl) (by kernel_rfl) (word_Text.ok a0.Loc hS33 hE hr127) ?_
         rintro _ w129 ⟨rfl,hS130⟩
         refine ⟨.string t126,rfl,?_⟩
         obtain ⟨g131,hp132⟩:=ite_some hp128
         refine r_val (c:=p10_19) (i:=5) (d:=(some 57)) (ty:=9) (op:=.binOp .add 9 (.tmp 53) (.tmp 56) 9) (v:=.string ((t29 ++ (⟨#[58,102,58]⟩ : ByteArray)) ++ t126)) (by kernel_rfl) (by kernel_rfl) (fun o ho _ => x_concat (by kernel_rfl) (by kernel_rfl) g131 ho) ?_
         refine sx_run 3 (todo':=[.code p10_20,.inBlock 0,.code p10_10]) (us:=[(2,.string ((t29 ++ (⟨#[58,102,58]⟩ : ByteArray)) ++ t126)),(3,.bool true)]) (by kernel_rfl) ?_
         have hS133:=hS130.drop
         refine runs_ret (fn:=Tryd.f10) (v:=.tuple #[.string ((t29 ++ (⟨#[58,102,58]⟩ : ByteArray)) ++ t126),.bool true]) Tryd.func10 (by kernel_rfl) ?_
         have hr134:=(Option.some.inj hp132)
         cases hr134
         exact hR _ _ ⟨rfl,hS133⟩
        ·skip
         have hp135:=ite_f hp120 h122
         refine sx_run 10 (todo':=[.code p10_21]) (us:=[(48,.bool false),(2,.string (⟨#[]⟩ : ByteArray)),(3,.bool false)]) (by kernel_rfl) ?_
         have hS136:=hS33.drop
         refine runs_ret (fn:=Tryd.f10) (v:=.tuple #[.string (⟨#[]⟩ : ByteArray),.bool false]) Tryd.func10 (by kernel_rfl) ?_
         have hr137:=(Option.some.inj hp135)
         cases hr137
         exact hR _ _ ⟨rfl,hS136⟩

noncomputable def cd4 (p : List Nat) : Code:=sub (bodyOf Tryd.f4) p
noncomputable abbrev p4_0 : Code:=cd4 [1,1,1,0,1,0,0]
noncomputable abbrev p4_1 : Code:=cd4 [1,1,1,1]
noncomputable abbrev p4_2 : Code:=cd4 [1,1,1,1,0,0]
noncomputable abbrev p4_3 : Code:=cd4 [1,1,1,1,0,1]
noncomputable abbrev p4_4 : Code:=cd4 [1,1,1,1,1]
noncomputable abbrev p4_5 : Code:=cd4 [1,1,1,1,0,1,0,1]
noncomputable abbrev p4_6 : Code:=cd4 [1,1,1,1,1,0]
noncomputable abbrev p4_7 : Code:=cd4 [1,1,1,1,1,1]
noncomputable abbrev p4_8 : Code:=cd4 [1,1,1,0,1,0,0,0]
noncomputable abbrev p4_9 : Code:=cd4 [1,1,1,0,1,0,0,1]
noncomputable abbrev p4_10 : Code:=cd4 [1,1,1,0,1,0,0,1,1,0,0,0]
noncomputable abbrev p4_11 : Code:=cd4 [1,1,1,0,1,0,0,1,1,0,0,1]
noncomputable abbrev p4_12 : Code:=cd4 [1,1,1,0,1,0,0,1,1,1]
noncomputable abbrev p4_13 : Code:=cd4 [1,1,1,0,1,0,0,1,1,0,0,1,0]
noncomputable abbrev p4_14 : Code:=cd4 [1,1,1,0,1,0,0,1,1,0,0,1,1]
noncomputable abbrev p4_15 : Code:=cd4 [1,1,1,0,1,0,0,1,1,0,0,1,1,0,0]
noncomputable abbrev p4_16 : Code:=cd4 [1,1,1,0,1,0,0,1,1,0,0,1,1,0,1]
noncomputable abbrev p4_17 : Code:=cd4 [1,1,1,0,1,0,0,1,1,0,0,1,1,1]
noncomputable abbrev p4_18 : Code:=cd4 [1,1,1,0,1,0,0,1,1,0,0,1,1,0,1,0,1]
noncomputable abbrev p4_19 : Code:=cd4 [1,1,1,0,1,0,0,1,1,0,0,1,1,1,1,0]
noncomputable abbrev p4_20 : Code:=cd4 [1,1,1,0,1,0,0,1,1,0,0,1,1,1,1,1]
noncomputable abbrev p4_21 : Code:=cd4 [1,1,1,0,1,0,0,1,1,0,0,1,1,1,1,1,0]
def script_Text.l0 (a0 : List api_Pick) (t34 : List ByteArray) (t38 : Int) (t39 : Int) : Option (Sum ((List ByteArray) × Int) (ByteArray × Int)) :=
  (if (decide (t39 < (a0.length : Int))) = true then (if 0 ≤ t39 ∧ t39 < (a0.length : Int) then (script_one.f (gt a0 t39) >>= (fun (t65,t66) => (if (!t66) = true then some (.inr (((⟨#[]⟩ : ByteArray),150))) else (if (decide ((IntKind.i64.wrap (t38 + (IntKind.i64.wrap ((t65.size : Int) + 1)))) ≤ 1048577)) = true then (if (t34.length + ([t65] : List ByteArray).length) * 16 ≤ 140737488355328 then (script_Text.l0 a0 (t34 ++ ([t65] : List ByteArray)) (IntKind.i64.wrap (t38 + (IntKind.i64.wrap ((t65.size : Int) + 1)))) (IntKind.i64.wrap (t39 + 1))) else none) else (script_Text.l0 a0 (id t34) (IntKind.i64.wrap (t38 + (IntKind.i64.wrap ((t65.size : Int) + 1)))) (IntKind.i64.wrap (t39 + 1))))))) else none) else some (.inl (t34,t38)))
 partial_fixpoint
def script_Text.f (a0 : List api_Pick) : Option (ByteArray × Int) :=
  (script_Text.l0 a0 [] 0 0 >>= (fun | .inl (t4,t8) => (if (decide (t8 > 1048577)) = true then some (((⟨#[]⟩ : ByteArray),1)) else (strings_Join.f t4 (⟨#[32]⟩ : ByteArray) >>= (fun t21 => some ((t21,0))))) | .inr e => some e))
set_option maxHeartbeats 16000000 in
theorem script_Text.ok (a0 : List api_Pick) (Aa0 : Option Addr) (ca0 : Nat) {w0 : World} {Z : Zm} {fs : List XObj} {w : World} (hS0 : St w0 Z (fs) w) (ha0 : SlZ (flat enc_api_Pick) 3 Z Aa0 ca0 a0) (hE : Env Z) {q0 : ByteArray} {q1 : Int} (hp0 : script_Text.f a0 = some (q0,q1)) :
    Calls Tryd.prog 4 #[.slice Aa0 a0.length ca0] w (fun e w' => e = .returned (.tuple #[.string q0,.int .i64 q1]) ∧ St w0 Z (fs) w'):=by
  refine calls_abs ?_; intro R hR
  unfold script_Text.f at hp0
  refine calls_of_runs (fn:=Tryd.f4) (c:=cd4 []) Tryd.func4 (by kernel_rfl) (al:=[.slice Aa0 a0.length ca0]) rfl (n:=38) rfl ?_
  refine sx_run 22 (todo':=[.code p4_0,.inLoop p4_0,.inBlock 0,.code p4_1]) (us:=[(2,.string (⟨#[]⟩ : ByteArray)),(3,.int .i64 0),(4,.slice none 0 0),(5,.int .i64 0),(10,.slice Aa0 a0.length ca0),(11,.int .i64 (a0.length : Int)),(12,.int .i64 0)]) (by kernel_rfl) ?_
  obtain ⟨v1,hv2,hp3⟩:=bind_some' hp0
  have hq11 : ∀ x,Sum.inr x = v1 → x = (q0,q1):=by intro x hx; subst hx; simpa using hp3
  have J12 : ∀ (t4 : List ByteArray) (t8 : Int) (he14 : Sum.inl (t4,t8) = v1) (l13 : List Value) (A5 : Option Addr) (c6 : Nat) (w9 : World) (hS10 : St w0 Z (xrow A5 c6 9 1 (t4.flatMap encS)::fs) w9),Runs Tryd.prog (fx 4) [.code p4_1] (fill (mk 39 [(4,.slice A5 t4.length c6),(5,.int .i64 t8)]) l13) w9 R:=by
   intro t4 t8 he14 l13 A5 c6 w9 hS10
   subst he14
   try dsimp only at hp3
   refine sx_split 5 (todo':=[.inRegion (opsOf p4_2) [],.code p4_3,.code p4_4]) (us:=[(35,.int .i64 t8)]) (d:=36) (t:=(decide (t8 > 1048577))) (by kernel_rfl) (fun h15 => ?_) (fun h16 => ?_)
   ·skip
    have hp17:=ite_t hp3 h15
    refine sx_run 7 (todo':=[.code p4_5,.code p4_4]) (us:=[(2,.string (⟨#[]⟩ : ByteArray)),(3,.int .i64 1)]) (by kernel_rfl) ?_
    have hS18:=hS10.drop
    refine runs_ret (fn:=Tryd.f4) (v:=.tuple #[.string (⟨#[]⟩ : ByteArray),.int .i64 1]) Tryd.func4 (by kernel_rfl) ?_
    have hr19:=(Option.some.inj hp17)
    cases hr19
    exact hR _ _ ⟨rfl,hS18⟩
   ·skip
    have hp20:=ite_f hp3 h16
    refine sx_run 6 (todo':=[.inRegion (opsOf p4_6) [1,2,3],.code p4_7]) (us:=[(37,.slice A5 t4.length c6)]) (by kernel_rfl) ?_
    obtain ⟨t21,hr22,hp23⟩:=bind_some' hp20
    obtain ⟨Z24,hz25,hS26,hs27,hb28⟩:=hS10.lendrow len_encS (by omega)
    refine r_call1 (c:=p4_6) (i:=1) (d:=(some 38)) (g:=11) (args:=#[.slice A5 t4.length c6,.string (⟨#[32]⟩ : ByteArray)]) (by kernel_rfl) (by kernel_rfl) (by kernel_rfl) (by kernel_rfl) (strings_Join.ok t4 (⟨#[32]⟩ : ByteArray) A5 c6 hS26 hs27 (hE.up hz25) hr22) ?_
    rintro _ w29 ⟨rfl,hS30⟩
    refine ⟨.string t21,rfl,?_⟩
    have hS31:=hb28 _ _ hS30
    refine sx_run 3 (todo':=[.code p4_7]) (us:=[(2,.string t21),(3,.int .i64 0)]) (by kernel_rfl) ?_
    have hS32:=hS31.drop
    refine runs_ret (fn:=Tryd.f4) (v:=.tuple #[.string t21,.int .i64 0]) Tryd.func4 (by kernel_rfl) ?_
    have hr33:=(Option.some.inj hp23)
    cases hr33
    exact hR _ _ ⟨rfl,hS32⟩
  have L48 : ∀ (t34 : List ByteArray) (t38 : Int) (t39 : Int) (e43 : Sum ((List ByteArray) × Int) (ByteArray × Int)),script_Text.l0 a0 t34 t38 t39 = some e43 → e43 = v1 → ∀ (l42 : List Value) (A35 : Option Addr) (c36 : Nat) (w40 : World) (hS41 : St w0 Z (xrow A35 c36 9 1 (t34.flatMap encS)::fs) w40),Runs Tryd.prog (fx 4) [.code p4_0,.inLoop p4_0,.inBlock 0,.code p4_1] (fill (mk 39 [(4,.slice A35 t34.length c36),(5,.int .i64 t38),(10,.slice Aa0 a0.length ca0),(11,.int .i64 (a0.length : Int)),(12,.int .i64 t39)]) l42) w40 R:=by
   refine script_Text.l0.partial_correctness a0 (fun t34 t38 t39 e43 => e43 = v1 → ∀ (l42 : List Value) (A35 : Option Addr) (c36 : Nat) (w40 : World) (hS41 : St w0 Z (xrow A35 c36 9 1 (t34.flatMap encS)::fs) w40),Runs Tryd.prog (fx 4) [.code p4_0,.inLoop p4_0,.inBlock 0,.code p4_1] (fill (mk 39 [(4,.slice A35 t34.length c36),(5,.int .i64 t38),(10,.slice Aa0 a0.length ca0),(11,.int .i64 (a0.length : Int)),(12,.int .i64 t39)]) l42) w40 R) ?_
   intro rec47 ih46 t34 t38 t39 e43 hb45 he44 l42 A35 c36 w40 hS41
   have hq49 : ∀ x,Sum.inr x = e43 → x = (q0,q1):=fun x hx => hq11 x (hx.trans he44)
   refine sx_split 3 (todo':=[.inRegion (opsOf p4_8) [],.code p4_9,.inLoop p4_0,.inBlock 0,.code p4_1]) (us:=[]) (d:=13) (t:=(decide (t39 < (a0.length : Int)))) (by kernel_rfl) (fun h50 => ?_) (fun h51 => ?_)
   ·skip
    have hp52:=ite_t hb45 h50
    refine sx_run 8 (todo':=[.inRegion (opsOf p4_10) [0,1,2,3],.code p4_11,.inBlock 1,.code p4_12,.inLoop p4_0,.inBlock 0,.code p4_1]) (us:=[]) (by kernel_rfl) ?_
    obtain ⟨g53,hp54⟩:=ite_some hp52
    obtain ⟨b55,p56,hA57,hc58⟩:=ha0.atF g53.1 g53.2
    refine r_indexAddr (c:=p4_10) (i:=0) (d:=(some 14)) (ty:=0) (t:=22) (e:=24) (n:=a0.length) (cp:=ca0) (sz:=3) (kk:=.i64) (x:=(.tmp 10)) (y:=(.tmp 12)) (b:=b55) (o':=p56) (j:=t39) (by kernel_rfl) (by kernel_rfl) (slv (by kernel_rfl) hA57) (by kernel_rfl) (by kernel_rfl) (by kernel_rfl) g53.1 g53.2 ?_
    refine r_load (c:=p4_10) (i:=1) (d:=(some 15)) (ty:=24) (t:=24) (x:=(.tmp 14)) (p:=⟨b55,p56 + t39.toNat * 3,none⟩) (v:=.agg (enc_api_Pick (gt a0 t39)).toArray) (by kernel_rfl) (by kernel_rfl) (by kernel_rfl) (loads_agg (hc58.cells hS41) (by kernel_rfl) (by kernel_rfl)) ?_
    refine r_alloc (c:=p4_10) (i:=2) (d:=(some 7)) (ty:=0) (z:=.agg (enc_api_Pick (⟨0,0,0⟩ : api_Pick)).toArray) (t:=24) (cs:=enc_api_Pick (⟨0,0,0⟩ : api_Pick)) hS41 (by kernel_rfl) (by kernel_rfl) (by kernel_rfl) (by kernel_rfl) ?_
    intro b59 w60 hS61
    refine r_store (c:=p4_10) (i:=3) (d:=none) (ty:=0) (t:=24) (x:=(.tmp 7)) (y:=(.tmp 15)) (b:=b59) (o:=0) (e:=24) (cs:=enc_api_Pick (⟨0,0,0⟩ : api_Pick)) (v:=.agg (enc_api_Pick (gt a0 t39)).toArray) (vs:=enc_api_Pick (gt a0 t39)) (cs':=enc_api_Pick (gt a0 t39)) hS61 (by kernel_rfl) (by kernel_rfl) (by kernel_rfl) (by kernel_rfl) (by kernel_rfl) (by kernel_rfl) (one_api_Pick _) (Nat.le_of_ble_eq_true (by kernel_rfl)) (by kernel_rfl) ?_
    intro w63 hS64
    refine sx_run 3 (todo':=[.inRegion (opsOf p4_13) [0,1,2,3,4,5,6],.code p4_14,.inBlock 1,.code p4_12,.inLoop p4_0,.inBlock 0,.code p4_1]) (us:=[]) (by kernel_rfl) ?_
    refine r_load (c:=p4_13) (i:=0) (d:=(some 17)) (ty:=24) (t:=24) (x:=(.tmp 7)) (p:=⟨b59,0,none⟩) (v:=.agg (enc_api_Pick (gt a0 t39)).toArray) (by kernel_rfl) (by kernel_rfl) (by kernel_rfl) (loads_agg (hS64.blk 0 rfl) (by kernel_rfl) (by kernel_rfl)) ?_
    obtain ⟨⟨t65,t66⟩,hr67,hp68⟩:=bind_some' hp54
    try dsimp only at hp68
    refine r_call1 (c:=p4_13) (i:=1) (d:=(some 18)) (g:=10) (args:=#[.agg (enc_api_Pick (gt a0 t39)).toArray]) (by kernel_rfl) (by kernel_rfl) (by kernel_rfl) (by kernel_rfl) (script_one.ok (gt a0 t39) hS64 hE hr67) ?_
    rintro _ w69 ⟨rfl,hS70⟩
    refine ⟨.tuple #[.string t65,.bool t66],rfl,?_⟩
    refine sx_split 11 (todo':=[.inRegion (opsOf p4_15) [],.code p4_16,.code p4_17,.inBlock 1,.code p4_12,.inLoop p4_0,.inBlock 0,.code p4_1]) (us:=[(16,.tuple #[.string t65,.bool t66]),(19,.string t65),(20,.bool t66),(8,.string t65),(9,.bool t66),(21,.bool t66)]) (d:=22) (t:=(!t66)) (by kernel_rfl) (fun h71 => ?_) (fun h72 => ?_)
    ·skip
     have hp73:=ite_t hp68 h71
     refine sx_run 7 (todo':=[.code p4_18,.code p4_17,.inBlock 1,.code p4_12,.inLoop p4_0,.inBlock 0,.code p4_1]) (us:=[(2,.string (⟨#[]⟩ : ByteArray)),(3,.int .i64 150)]) (by kernel_rfl) ?_
     refine r_isret (c:=p4_18) (by kernel_rfl) ?_
     have hS74:=hS70.drop
     have hS75:=hS74.drop
     refine runs_ret (fn:=Tryd.f4) (v:=.tuple #[.string (⟨#[]⟩ : ByteArray),.int .i64 150]) Tryd.func4 (by kernel_rfl) ?_
     have hr76:=(hq49 _ (Option.some.inj hp73))
     cases hr76
     exact hR _ _ ⟨rfl,hS75⟩
    ·skip
     have hp77:=ite_f hp68 h72
     refine sx_split 16 (todo':=[.inRegion (opsOf p4_19) [],.code p4_20,.inBlock 1,.code p4_12,.inLoop p4_0,.inBlock 0,.code p4_1]) (us:=[(23,.int .i64 t38),(24,.string t65),(25,.int .i64 (t65.size : Int)),(26,.int .i64 (IntKind.i64.wrap ((t65.size : Int) + 1))),(27,.int .i64 (IntKind.i64.wrap (t38 + (IntKind.i64.wrap ((t65.size : Int) + 1))))),(5,.int .i64 (IntKind.i64.wrap (t38 + (IntKind.i64.wrap ((t65.size : Int) + 1))))),(28,.int .i64 (IntKind.i64.wrap (t38 + (IntKind.i64.wrap ((t65.size : Int) + 1)))))]) (d:=29) (t:=(decide ((IntKind.i64.wrap (t38 + (IntKind.i64.wrap ((t65.size : Int) + 1)))) ≤ 1048577))) (by kernel_rfl) (fun h78 => ?_) (fun h79 => ?_)
     ·skip
      have hp80:=ite_t hp77 h78
      refine sx_run 5 (todo':=[.inRegion (opsOf p4_21) [2,3,4],.inBlock 1,.code p4_12,.inLoop p4_0,.inBlock 0,.code p4_1]) (us:=[(30,.slice A35 t34.length c36),(31,.string t65)]) (by kernel_rfl) ?_
      refine r_lit (c:=p4_21) (i:=2) (d:=(some 32)) (ty:=41) (t:=41) (e:=9) (sz:=1) (n:=1) (parts:=#[(0,(.tmp 31))]) (vs:=[(0,.string t65)]) (z:=zeroOf Tryd.prog 9) (cs':=([t65] : List ByteArray).flatMap encS) hS70 (by kernel_rfl) (by kernel_rfl) (by kernel_rfl) (by kernel_rfl) (by kernel_rfl) (by decide) (by decide) (by kernel_rfl) rfl (Parts.cons (c:=[.string t65]) (by kernel_rfl) rfl Parts.nil) rfl ?_
      intro b82 w83 hS84
      have hS85:=hS84.pick2
      obtain ⟨g86,hp87⟩:=ite_some hp80
      refine r_append (c:=p4_21) (i:=3) (d:=(some 33)) (ty:=41) (enc:=encS) (e:=9) (u:=9) (t:=41) (t2:=41) (sz:=1) (cp:=c36) (A:=A35) (bytes:=16) (xs:=t34) (ys:=([t65] : List ByteArray)) (s:=(.tmp 30)) (x:=(.tmp 32)) (xv:=.slice (some ⟨b82,0,none⟩) ([t65] : List ByteArray).length 1) (info:=infoOf Tryd.prog 9) (z:=zeroOf Tryd.prog 9) (ycs:=([t65] : List ByteArray).flatMap encS) hS85 (by kernel_rfl) (by kernel_rfl) (by kernel_rfl) (by kernel_rfl) (by kernel_rfl) (.inl (by kernel_rfl)) (by kernel_rfl) (by kernel_rfl) (by kernel_rfl) (by kernel_rfl) (by kernel_rfl) (by omega) len_encS one_encS (src_row (hS85.row 1 rfl) (by omega) len_encS) rfl g86 (by omega) ?_
      intro A88 c89 w90 hS91
      refine sx_run 7 (todo':=[.inLoop p4_0,.inBlock 0,.code p4_1]) (us:=[(4,.slice A88 (t34 ++ ([t65] : List ByteArray)).length c89),(34,.int .i64 (IntKind.i64.wrap (t39 + 1))),(12,.int .i64 (IntKind.i64.wrap (t39 + 1)))]) (by kernel_rfl) ?_
      have hS93:=hS91.pick1
      have hS94:=hS93.drop
      have hS95:=hS94.pick1
      have hS96:=hS95.drop
      refine sx_run 1 (todo':=[.code p4_0,.inLoop p4_0,.inBlock 0,.code p4_1]) (us:=[]) (by kernel_rfl) ?_
      refine Runs.fill (m:=(mk 39 [(4,.slice A88 (t34 ++ ([t65] : List ByteArray)).length c89),(5,.int .i64 (IntKind.i64.wrap (t38 + (IntKind.i64.wrap ((t65.size : Int) + 1))))),(10,.slice Aa0 a0.length ca0),(11,.int .i64 (a0.length : Int)),(12,.int .i64 (IntKind.i64.wrap (t39 + 1)))])) (by kernel_rfl) ?_
      exact ih46 (t34 ++ ([t65] : List ByteArray)) (IntKind.i64.wrap (t38 + (IntKind.i64.wrap ((t65.size : Int) + 1)))) (IntKind.i64.wrap (t39 + 1)) _ hp87 he44 _ A88 c89 _ hS96
     ·skip
      have hp97:=ite_f hp77 h79
      refine sx_run 8 (todo':=[.inLoop p4_0,.inBlock 0,.code p4_1]) (us:=[(34,.int .i64 (IntKind.i64.wrap (t39 + 1))),(12,.int .i64 (IntKind.i64.wrap (t39 + 1)))]) (by kernel_rfl) ?_
      have hS98:=hS70.drop
      refine sx_run 1 (todo':=[.code p4_0,.inLoop p4_0,.inBlock 0,.code p4_1]) (us:=[]) (by kernel_rfl) ?_
      refine Runs.fill (m:=(mk 39 [(4,.slice A35 t34.length c36),(5,.int .i64 (IntKind.i64.wrap (t38 + (IntKind.i64.wrap ((t65.size : Int) + 1))))),(10,.slice Aa0 a0.length ca0),(11,.int .i64 (a0.length : Int)),(12,.int .i64 (IntKind.i64.wrap (t39 + 1)))])) (by kernel_rfl) ?_
      exact ih46 (id t34) (IntKind.i64.wrap (t38 + (IntKind.i64.wrap ((t65.size : Int) + 1)))) (IntKind.i64.wrap (t39 + 1)) _ hp97 he44 _ A35 c36 _ hS98
   ·skip
    have hp99:=ite_f hb45 h51
    refine sx_run 4 (todo':=[.code p4_1]) (us:=[]) (by kernel_rfl) ?_
    refine Runs.fill (m:=(mk 39 [(4,.slice A35 t34.length c36),(5,.int .i64 t38)])) (by kernel_rfl) ?_
    exact J12 t34 t38 ((Option.some.inj hp99).trans he44) _ A35 c36 _ hS41
  have hS101:=hS0.nilrow none 9 1
  refine Runs.fill (m:=(mk 39 [(4,.slice none 0 0),(5,.int .i64 0),(10,.slice Aa0 a0.length ca0),(11,.int .i64 (a0.length : Int)),(12,.int .i64 0)])) (by kernel_rfl) ?_
  exact L48 [] 0 0 _ hv2 rfl _ none 0 _ hS101

noncomputable def cd12 (p : List Nat) : Code:=sub (bodyOf Tryd.f12) p
noncomputable abbrev p12_0 : Code:=cd12 [0]
noncomputable abbrev p12_1 : Code:=cd12 [1]
noncomputable abbrev p12_2 : Code:=cd12 [1,0,0]
noncomputable abbrev p12_3 : Code:=cd12 [1,0,1]
noncomputable abbrev p12_4 : Code:=cd12 [1,1]
noncomputable abbrev p12_5 : Code:=cd12 [1,0,1,0,1]
noncomputable abbrev p12_6 : Code:=cd12 [1,1,0]
noncomputable abbrev p12_7 : Code:=cd12 [1,1,1]
def weirref15_has.f (a0 : api_Pick) : Option Bool :=
  (if (decide (a0.Thread < 0)) = true then some (false) else (if (decide (a0.Thread > 9999)) = true then some (false) else (if (decide (a0.Loc < 0)) = true then some (false) else (if (decide (a0.Loc > 9999)) = true then some (false) else (if (a0.Kind == 1) = true then (if (a0.Loc == 0) = true then some (true) else (if (a0.Kind == 2) = true then some (true) else some (false))) else (if (a0.Kind == 2) = true then some (true) else some (false)))))))
set_option maxHeartbeats 16000000 in
theorem weirref15_has.ok (a0 : api_Pick) {w0 : World} {Z : Zm} {fs : List XObj} {w : World} (hS0 : St w0 Z (fs) w) {q0 : Bool} (hp0 : weirref15_has.f a0 = some q0) :
    Calls Tryd.prog 12 #[.agg (enc_api_Pick a0).toArray] w (fun e w' => e = .returned (.bool q0) ∧ St w0 Z (fs) w'):=by
  refine calls_abs ?_; intro R hR
  unfold weirref15_has.f at hp0
  refine calls_of_runs (fn:=Tryd.f12) (c:=cd12 []) Tryd.func12 (by kernel_rfl) (al:=[.agg (enc_api_Pick a0).toArray]) rfl (n:=33) rfl ?_
  refine sx_run 2 (todo':=[.inRegion (opsOf p12_0) [0,1],.code p12_1]) (us:=[]) (by kernel_rfl) ?_
  refine r_box (c:=p12_0) (i:=0) (d:=(some 1)) (ty:=0) (x:=(.tmp 0)) (v:=.agg (enc_api_Pick a0).toArray) (t:=24) (cs:=enc_api_Pick a0) hS0 (by kernel_rfl) (by kernel_rfl) (by kernel_rfl) (by kernel_rfl) ?_
  intro b1 w2 hS3
  refine sx_run 6 (todo':=[.inRegion (opsOf p12_2) [1,2,3,4,5,6,7,8,9,10,11,12,13,14,15,16,17],.code p12_3,.code p12_4]) (us:=[(2,.bool false),(3,.pointer (some ⟨b1,0,none⟩))]) (by kernel_rfl) ?_
  refine r_load (c:=p12_2) (i:=1) (d:=(some 4)) (ty:=3) (t:=3) (x:=(.tmp 3)) (p:=⟨b1,0,none⟩) (v:=.int .i64 a0.Thread) (by kernel_rfl) (by kernel_rfl) (by kernel_rfl) (loads_at 0 (hS3.blk 0 rfl) (by kernel_rfl) (by kernel_rfl)) ?_
  refine sx_split 1 (todo':=[.inRegion (opsOf p12_2) [3,4,5,6,7,8,9,10,11,12,13,14,15,16,17],.code p12_3,.code p12_4]) (us:=[]) (d:=5) (t:=(decide (a0.Thread < 0))) (by kernel_rfl) (fun h5 => ?_) (fun h6 => ?_)
  ·skip
   have hp7:=ite_t hp0 h5
   refine sx_run 21 (todo':=[.code p12_5,.code p12_4]) (us:=[(6,.bool true),(7,undef),(8,undef),(9,undef),(10,.bool true),(11,.bool true),(12,undef),(13,undef),(14,undef),(15,.bool true),(16,.bool true),(17,undef),(18,undef),(19,undef),(20,.bool true),(2,.bool false)]) (by kernel_rfl) ?_
   have hS8:=hS3.drop
   refine runs_ret (fn:=Tryd.f12) (v:=.bool false) Tryd.func12 (by kernel_rfl) ?_
   have hr9:=(Option.some.inj hp7)
   cases hr9
   exact hR _ _ ⟨rfl,hS8⟩
  ·skip
   have hp10:=ite_f hp0 h6
   refine sx_run 2 (todo':=[.inRegion (opsOf p12_2) [5,6,7,8,9,10,11,12,13,14,15,16,17],.code p12_3,.code p12_4]) (us:=[(6,.bool false),(7,.pointer (some ⟨b1,0,none⟩))]) (by kernel_rfl) ?_
   refine r_load (c:=p12_2) (i:=5) (d:=(some 8)) (ty:=3) (t:=3) (x:=(.tmp 7)) (p:=⟨b1,0,none⟩) (v:=.int .i64 a0.Thread) (by kernel_rfl) (by kernel_rfl) (by kernel_rfl) (loads_at 0 (hS3.blk 0 rfl) (by kernel_rfl) (by kernel_rfl)) ?_
   refine sx_split 1 (todo':=[.inRegion (opsOf p12_2) [7,8,9,10,11,12,13,14,15,16,17],.code p12_3,.code p12_4]) (us:=[]) (d:=9) (t:=(decide (a0.Thread > 9999))) (by kernel_rfl) (fun h11 => ?_) (fun h12 => ?_)
   ·skip
    have hp13:=ite_t hp10 h11
    refine sx_run 17 (todo':=[.code p12_5,.code p12_4]) (us:=[(10,.bool true),(11,.bool true),(12,undef),(13,undef),(14,undef),(15,.bool true),(16,.bool true),(17,undef),(18,undef),(19,undef),(20,.bool true),(2,.bool false)]) (by kernel_rfl) ?_
    have hS14:=hS3.drop
    refine runs_ret (fn:=Tryd.f12) (v:=.bool false) Tryd.func12 (by kernel_rfl) ?_
    have hr15:=(Option.some.inj hp13)
    cases hr15
    exact hR _ _ ⟨rfl,hS14⟩
   ·skip
    have hp16:=ite_f hp10 h12
    refine sx_run 3 (todo':=[.inRegion (opsOf p12_2) [10,11,12,13,14,15,16,17],.code p12_3,.code p12_4]) (us:=[(10,.bool false),(11,.bool false),(12,.pointer (some ⟨b1,2,none⟩))]) (by kernel_rfl) ?_
    refine r_load (c:=p12_2) (i:=10) (d:=(some 13)) (ty:=3) (t:=3) (x:=(.tmp 12)) (p:=⟨b1,2,none⟩) (v:=.int .i64 a0.Loc) (by kernel_rfl) (by kernel_rfl) (by kernel_rfl) (loads_at 2 (hS3.blk 0 rfl) (by kernel_rfl) (by kernel_rfl)) ?_
    refine sx_split 1 (todo':=[.inRegion (opsOf p12_2) [12,13,14,15,16,17],.code p12_3,.code p12_4]) (us:=[]) (d:=14) (t:=(decide (a0.Loc < 0))) (by kernel_rfl) (fun h17 => ?_) (fun h18 => ?_)
    ·skip
     have hp19:=ite_t hp16 h17
     refine sx_run 12 (todo':=[.code p12_5,.code p12_4]) (us:=[(15,.bool true),(16,.bool true),(17,undef),(18,undef),(19,undef),(20,.bool true),(2,.bool false)]) (by kernel_rfl) ?_
     have hS20:=hS3.drop
     refine runs_ret (fn:=Tryd.f12) (v:=.bool false) Tryd.func12 (by kernel_rfl) ?_
     have hr21:=(Option.some.inj hp19)
     cases hr21
     exact hR _ _ ⟨rfl,hS20⟩
    ·skip
     have hp22:=ite_f hp16 h18
     refine sx_run 3 (todo':=[.inRegion (opsOf p12_2) [15,16,17],.code p12_3,.code p12_4]) (us:=[(15,.bool false),(16,.bool false),(17,.pointer (some ⟨b1,2,none⟩))]) (by kernel_rfl) ?_
     refine r_load (c:=p12_2) (i:=15) (d:=(some 18)) (ty:=3) (t:=3) (x:=(.tmp 17)) (p:=⟨b1,2,none⟩) (v:=.int .i64 a0.Loc) (by kernel_rfl) (by kernel_rfl) (by kernel_rfl) (loads_at 2 (hS3.blk 0 rfl) (by kernel_rfl) (by kernel_rfl)) ?_
     refine sx_split 1 (todo':=[.inRegion (opsOf p12_2) [17],.code p12_3,.code p12_4]) (us:=[]) (d:=19) (t:=(decide (a0.Loc > 9999))) (by kernel_rfl) (fun h23 => ?_) (fun h24 => ?_)
     ·skip
      have hp25:=ite_t hp22 h23
      refine sx_run 7 (todo':=[.code p12_5,.code p12_4]) (us:=[(20,.bool true),(2,.bool false)]) (by kernel_rfl) ?_
      have hS26:=hS3.drop
      refine runs_ret (fn:=Tryd.f12) (v:=.bool false) Tryd.func12 (by kernel_rfl) ?_
      have hr27:=(Option.some.inj hp25)
      cases hr27
      exact hR _ _ ⟨rfl,hS26⟩
     ·skip
      have hp28:=ite_f hp22 h24
      refine sx_run 7 (todo':=[.inRegion (opsOf p12_6) [1,2,3,4,5,6,7,8,9,10,11,12,13],.code p12_7]) (us:=[(20,.bool false),(21,.pointer (some ⟨b1,1,none⟩))]) (by kernel_rfl) ?_
      refine r_load (c:=p12_6) (i:=1) (d:=(some 22)) (ty:=3) (t:=3) (x:=(.tmp 21)) (p:=⟨b1,1,none⟩) (v:=.int .i64 a0.Kind) (by kernel_rfl) (by kernel_rfl) (by kernel_rfl) (loads_at 1 (hS3.blk 0 rfl) (by kernel_rfl) (by kernel_rfl)) ?_
      refine sx_split 1 (todo':=[.inRegion (opsOf p12_6) [3,4,5,6,7,8,9,10,11,12,13],.code p12_7]) (us:=[]) (d:=23) (t:=(a0.Kind == 1)) (by kernel_rfl) (fun h29 => ?_) (fun h30 => ?_)
      ·skip
       have hp31:=ite_t hp28 h29
       refine sx_run 2 (todo':=[.inRegion (opsOf p12_6) [5,6,7,8,9,10,11,12,13],.code p12_7]) (us:=[(24,.bool true),(25,.pointer (some ⟨b1,2,none⟩))]) (by kernel_rfl) ?_
       refine r_load (c:=p12_6) (i:=5) (d:=(some 26)) (ty:=3) (t:=3) (x:=(.tmp 25)) (p:=⟨b1,2,none⟩) (v:=.int .i64 a0.Loc) (by kernel_rfl) (by kernel_rfl) (by kernel_rfl) (loads_at 2 (hS3.blk 0 rfl) (by kernel_rfl) (by kernel_rfl)) ?_
       refine sx_split 1 (todo':=[.inRegion (opsOf p12_6) [7,8,9,10,11,12,13],.code p12_7]) (us:=[]) (d:=27) (t:=(a0.Loc == 0)) (by kernel_rfl) (fun h32 => ?_) (fun h33 => ?_)
       ·skip
        have hp34:=ite_t hp31 h32
        refine sx_run 8 (todo':=[.code p12_7]) (us:=[(28,.bool true),(29,.bool true),(30,undef),(31,undef),(32,undef),(33,.bool true),(2,.bool true)]) (by kernel_rfl) ?_
        have hS35:=hS3.drop
        refine runs_ret (fn:=Tryd.f12) (v:=.bool true) Tryd.func12 (by kernel_rfl) ?_
        have hr36:=(Option.some.inj hp34)
        cases hr36
        exact hR _ _ ⟨rfl,hS35⟩
       ·skip
        have hp37:=ite_f hp31 h33
        refine sx_run 3 (todo':=[.inRegion (opsOf p12_6) [10,11,12,13],.code p12_7]) (us:=[(28,.bool false),(29,.bool false),(30,.pointer (some ⟨b1,1,none⟩))]) (by kernel_rfl) ?_
        refine r_load (c:=p12_6) (i:=10) (d:=(some 31)) (ty:=3) (t:=3) (x:=(.tmp 30)) (p:=⟨b1,1,none⟩) (v:=.int .i64 a0.Kind) (by kernel_rfl) (by kernel_rfl) (by kernel_rfl) (loads_at 1 (hS3.blk 0 rfl) (by kernel_rfl) (by kernel_rfl)) ?_
        refine sx_split 1 (todo':=[.inRegion (opsOf p12_6) [12,13],.code p12_7]) (us:=[]) (d:=32) (t:=(a0.Kind == 2)) (by kernel_rfl) (fun h38 => ?_) (fun h39 => ?_)
        ·skip
         have hp40:=ite_t hp37 h38
         refine sx_run 3 (todo':=[.code p12_7]) (us:=[(33,.bool true),(2,.bool true)]) (by kernel_rfl) ?_
         have hS41:=hS3.drop
         refine runs_ret (fn:=Tryd.f12) (v:=.bool true) Tryd.func12 (by kernel_rfl) ?_
         have hr42:=(Option.some.inj hp40)
         cases hr42
         exact hR _ _ ⟨rfl,hS41⟩
        ·skip
         have hp43:=ite_f hp37 h39
         refine sx_run 3 (todo':=[.code p12_7]) (us:=[(33,.bool false),(2,.bool false)]) (by kernel_rfl) ?_
         have hS44:=hS3.drop
         refine runs_ret (fn:=Tryd.f12) (v:=.bool false) Tryd.func12 (by kernel_rfl) ?_
         have hr45:=(Option.some.inj hp43)
         cases hr45
         exact hR _ _ ⟨rfl,hS44⟩
      ·skip
       have hp46:=ite_f hp28 h30
       refine sx_run 7 (todo':=[.inRegion (opsOf p12_6) [10,11,12,13],.code p12_7]) (us:=[(24,.bool false),(25,undef),(26,undef),(27,undef),(28,.bool false),(29,.bool false),(30,.pointer (some ⟨b1,1,none⟩))]) (by kernel_rfl) ?_
       refine r_load (c:=p12_6) (i:=10) (d:=(some 31)) (ty:=3) (t:=3) (x:=(.tmp 30)) (p:=⟨b1,1,none⟩) (v:=.int .i64 a0.Kind) (by kernel_rfl) (by kernel_rfl) (by kernel_rfl) (loads_at 1 (hS3.blk 0 rfl) (by kernel_rfl) (by kernel_rfl)) ?_
       refine sx_split 1 (todo':=[.inRegion (opsOf p12_6) [12,13],.code p12_7]) (us:=[]) (d:=32) (t:=(a0.Kind == 2)) (by kernel_rfl) (fun h47 => ?_) (fun h48 => ?_)
       ·skip
        have hp49:=ite_t hp46 h47
        refine sx_run 3 (todo':=[.code p12_7]) (us:=[(33,.bool true),(2,.bool true)]) (by kernel_rfl) ?_
        have hS50:=hS3.drop
        refine runs_ret (fn:=Tryd.f12) (v:=.bool true) Tryd.func12 (by kernel_rfl) ?_
        have hr51:=(Option.some.inj hp49)
        cases hr51
        exact hR _ _ ⟨rfl,hS50⟩
       ·skip
        have hp52:=ite_f hp46 h48
        refine sx_run 3 (todo':=[.code p12_7]) (us:=[(33,.bool false),(2,.bool false)]) (by kernel_rfl) ?_
        have hS53:=hS3.drop
        refine runs_ret (fn:=Tryd.f12) (v:=.bool false) Tryd.func12 (by kernel_rfl) ?_
        have hr54:=(Option.some.inj hp52)
        cases hr54
        exact hR _ _ ⟨rfl,hS53⟩

noncomputable def cd32 (p : List Nat) : Code:=sub (bodyOf Tryd.f32) p
noncomputable abbrev p32_0 : Code:=cd32 [1,1,0,0,0]
noncomputable abbrev p32_1 : Code:=cd32 [1,1,1]
noncomputable abbrev p32_2 : Code:=cd32 [1,1,1,0]
noncomputable abbrev p32_3 : Code:=cd32 [1,1,1,1]
noncomputable abbrev p32_4 : Code:=cd32 [1,1,0,0,0,0,0]
noncomputable abbrev p32_5 : Code:=cd32 [1,1,0,0,0,0,1]
noncomputable abbrev p32_6 : Code:=cd32 [1,1,0,0,0,1]
noncomputable abbrev p32_7 : Code:=cd32 [1,1,0,0,0,1,0,0]
noncomputable abbrev p32_8 : Code:=cd32 [1,1,0,0,0,1,0,1]
def weirref04_in.l0 (a1 : Int) (t16 : Int) (t17 : ByteArray) : Option (Int × ByteArray) :=
  (if (decide (t16 ≥ a1)) = true then (if a1 ≠ 0 then (if a1 ≠ 0 then (if 0 ≤ (t16.tmod a1) ∧ (t16.tmod a1) ≤ (IntKind.u64.wrap ((t16.tmod a1) + 1)) ∧ (IntKind.u64.wrap ((t16.tmod a1) + 1)) ≤ ((⟨#[48,49,50,51,52,53,54,55,56,57,97,98,99,100,101,102]⟩ : ByteArray).size : Int) then (if ((⟨#[48,49,50,51,52,53,54,55,56,57,97,98,99,100,101,102]⟩ : ByteArray).extract (t16.tmod a1).toNat (IntKind.u64.wrap ((t16.tmod a1) + 1)).toNat).size + t17.size ≤ 9223372036854775807 then (if a1 ≠ 0 then (weirref04_in.l0 a1 (IntKind.u64.wrap (t16.tdiv a1)) (((⟨#[48,49,50,51,52,53,54,55,56,57,97,98,99,100,101,102]⟩ : ByteArray).extract (t16.tmod a1).toNat (IntKind.u64.wrap ((t16.tmod a1) + 1)).toNat) ++ t17)) else none) else none) else none) else none) else none) else some ((t16,t17)))
 partial_fixpoint
def weirref04_in.f (a0 : Int) (a1 : Int) : Option ByteArray :=
  (weirref04_in.l0 a1 a0 (⟨#[]⟩ : ByteArray) >>= (fun (t4,t5) => (if 0 ≤ t4 ∧ t4 ≤ (IntKind.u64.wrap (t4 + 1)) ∧ (IntKind.u64.wrap (t4 + 1)) ≤ ((⟨#[48,49,50,51,52,53,54,55,56,57,97,98,99,100,101,102]⟩ : ByteArray).size : Int) then (if ((⟨#[48,49,50,51,52,53,54,55,56,57,97,98,99,100,101,102]⟩ : ByteArray).extract t4.toNat (IntKind.u64.wrap (t4 + 1)).toNat).size + t5.size ≤ 9223372036854775807 then some ((((⟨#[48,49,50,51,52,53,54,55,56,57,97,98,99,100,101,102]⟩ : ByteArray).extract t4.toNat (IntKind.u64.wrap (t4 + 1)).toNat) ++ t5)) else none) else none)))
set_option maxHeartbeats 16000000 in
theorem weirref04_in.ok (a0 : Int) (a1 : Int) {w0 : World} {Z : Zm} {fs : List XObj} {w : World} (hS0 : St w0 Z (fs) w) {q0 : ByteArray} (hp0 : weirref04_in.f a0 a1 = some q0) :
    Calls Tryd.prog 32 #[.int .u64 a0,.int .u64 a1] w (fun e w' => e = .returned (.string q0) ∧ St w0 Z (fs) w'):=by
  refine calls_abs ?_; intro R hR
  unfold weirref04_in.f at hp0
  refine calls_of_runs (fn:=Tryd.f32) (c:=cd32 []) Tryd.func32 (by kernel_rfl) (al:=[.int .u64 a0,.int .u64 a1]) rfl (n:=26) rfl ?_
  refine sx_run 11 (todo':=[.code p32_0,.inLoop p32_0,.inBlock 0,.code p32_1]) (us:=[(4,.string (⟨#[]⟩ : ByteArray)),(5,.string (⟨#[]⟩ : ByteArray))]) (by kernel_rfl) ?_
  obtain ⟨v1,hv2,hp3⟩:=bind_some' hp0
  have J8 : ∀ (t4 : Int) (t5 : ByteArray) (he10 : (t4,t5) = v1) (l9 : List Value) (w6 : World) (hS7 : St w0 Z (fs) w6),Runs Tryd.prog (fx 32) [.code p32_1] (fill (mk 28 [(0,.int .u64 t4),(5,.string t5)]) l9) w6 R:=by
   intro t4 t5 he10 l9 w6 hS7
   subst he10
   try dsimp only at hp3
   refine sx_run 5 (todo':=[.inRegion (opsOf p32_2) [3,4,5,6],.code p32_3]) (us:=[(22,.int .u64 t4),(23,.int .u64 t4),(24,.int .u64 (IntKind.u64.wrap (t4 + 1)))]) (by kernel_rfl) ?_
   obtain ⟨g11,hp12⟩:=ite_some hp3
   refine r_val (c:=p32_2) (i:=3) (d:=(some 25)) (ty:=9) (op:=.slice 9 (.const (.string (⟨#[48,49,50,51,52,53,54,55,56,57,97,98,99,100,101,102]⟩ : ByteArray))) (some (.tmp 22)) (some (.tmp 24)) none) (v:=.string ((⟨#[48,49,50,51,52,53,54,55,56,57,97,98,99,100,101,102]⟩ : ByteArray).extract t4.toNat (IntKind.u64.wrap (t4 + 1)).toNat)) (by kernel_rfl) (by kernel_rfl) (fun o ho _ => x_cutStr_ss (k:=.u64) (k':=.u64) (by kernel_rfl) (by kernel_rfl) (by kernel_rfl) (by kernel_rfl) g11 ho) ?_
   refine sx_run 1 (todo':=[.inRegion (opsOf p32_2) [5,6],.code p32_3]) (us:=[(26,.string t5)]) (by kernel_rfl) ?_
   obtain ⟨g13,hp14⟩:=ite_some hp12
   refine r_val (c:=p32_2) (i:=5) (d:=(some 27)) (ty:=9) (op:=.binOp .add 9 (.tmp 25) (.tmp 26) 9) (v:=.string (((⟨#[48,49,50,51,52,53,54,55,56,57,97,98,99,100,101,102]⟩ : ByteArray).extract t4.toNat (IntKind.u64.wrap (t4 + 1)).toNat) ++ t5)) (by kernel_rfl) (by kernel_rfl) (fun o ho _ => x_concat (by kernel_rfl) (by kernel_rfl) g13 ho) ?_
   refine sx_run 2 (todo':=[.code p32_3]) (us:=[(4,.string (((⟨#[48,49,50,51,52,53,54,55,56,57,97,98,99,100,101,102]⟩ : ByteArray).extract t4.toNat (IntKind.u64.wrap (t4 + 1)).toNat) ++ t5))]) (by kernel_rfl) ?_
   refine runs_ret (fn:=Tryd.f32) (v:=.string (((⟨#[48,49,50,51,52,53,54,55,56,57,97,98,99,100,101,102]⟩ : ByteArray).extract t4.toNat (IntKind.u64.wrap (t4 + 1)).toNat) ++ t5)) Tryd.func32 (by kernel_rfl) ?_
   have hr15:=(Option.some.inj hp14)
   cases hr15
   exact hR _ _ ⟨rfl,hS7⟩
  have L26 : ∀ (t16 : Int) (t17 : ByteArray) (e21 : (Int × ByteArray)),weirref04_in.l0 a1 t16 t17 = some e21 → e21 = v1 → ∀ (l20 : List Value) (w18 : World) (hS19 : St w0 Z (fs) w18),Runs Tryd.prog (fx 32) [.code p32_0,.inLoop p32_0,.inBlock 0,.code p32_1] (fill (mk 28 [(0,.int .u64 t16),(1,.int .u64 a1),(5,.string t17)]) l20) w18 R:=by
   refine weirref04_in.l0.partial_correctness a1 (fun t16 t17 e21 => e21 = v1 → ∀ (l20 : List Value) (w18 : World) (hS19 : St w0 Z (fs) w18),Runs Tryd.prog (fx 32) [.code p32_0,.inLoop p32_0,.inBlock 0,.code p32_1] (fill (mk 28 [(0,.int .u64 t16),(1,.int .u64 a1),(5,.string t17)]) l20) w18 R) ?_
   intro rec25 ih24 t16 t17 e21 hb23 he22 l20 w18 hS19
   refine sx_split 6 (todo':=[.inRegion (opsOf p32_4) [],.code p32_5,.code p32_6,.inLoop p32_0,.inBlock 0,.code p32_1]) (us:=[(6,.int .u64 t16),(7,.int .u64 a1)]) (d:=8) (t:=(decide (t16 ≥ a1))) (by kernel_rfl) (fun h27 => ?_) (fun h28 => ?_)
   ·skip
    have hp29:=ite_t hb23 h27
    refine sx_run 5 (todo':=[.code p32_7,.code p32_8,.inBlock 1,.inLoop p32_0,.inBlock 0,.code p32_1]) (us:=[]) (by kernel_rfl) ?_
    refine r_quiet hS19 (c:=p32_7) (id:=3) (by kernel_rfl) (by kernel_rfl) (by kernel_rfl) (is:=[0,1,2,3,4,5,6,7,8,9,10]) (by kernel_rfl) ?_
    refine q_run 2 (is':=[2,3,4,5,6,7,8,9,10]) (us:=[(9,.int .u64 t16),(10,.int .u64 a1)]) (by kernel_rfl) ?_
    obtain ⟨g30,hp31⟩:=ite_some hp29
    refine q_val (c:=p32_7) (i:=2) (d:=(some 11)) (ty:=74) (op:=.binOp .rem 74 (.tmp 9) (.tmp 10) 74) (v:=.int .u64 (t16.tmod a1)) (by kernel_rfl) (by kernel_rfl) (fun w hC o ho _ => (x_div (by kernel_rfl) (by kernel_rfl) g30).2 ho) ?_
    refine q_run 2 (is':=[5,6,7,8,9,10]) (us:=[(12,.int .u64 t16),(13,.int .u64 a1)]) (by kernel_rfl) ?_
    obtain ⟨g32,hp33⟩:=ite_some hp31
    refine q_val (c:=p32_7) (i:=5) (d:=(some 14)) (ty:=74) (op:=.binOp .rem 74 (.tmp 12) (.tmp 13) 74) (v:=.int .u64 (t16.tmod a1)) (by kernel_rfl) (by kernel_rfl) (fun w hC o ho _ => (x_div (by kernel_rfl) (by kernel_rfl) g32).2 ho) ?_
    refine q_run 1 (is':=[7,8,9,10]) (us:=[(15,.int .u64 (IntKind.u64.wrap ((t16.tmod a1) + 1)))]) (by kernel_rfl) ?_
    obtain ⟨g34,hp35⟩:=ite_some hp33
    refine q_val (c:=p32_7) (i:=7) (d:=(some 16)) (ty:=9) (op:=.slice 9 (.const (.string (⟨#[48,49,50,51,52,53,54,55,56,57,97,98,99,100,101,102]⟩ : ByteArray))) (some (.tmp 11)) (some (.tmp 15)) none) (v:=.string ((⟨#[48,49,50,51,52,53,54,55,56,57,97,98,99,100,101,102]⟩ : ByteArray).extract (t16.tmod a1).toNat (IntKind.u64.wrap ((t16.tmod a1) + 1)).toNat)) (by kernel_rfl) (by kernel_rfl) (fun w hC o ho _ => x_cutStr_ss (k:=.u64) (k':=.u64) (by kernel_rfl) (by kernel_rfl) (by kernel_rfl) (by kernel_rfl) g34 ho) ?_
    refine q_run 1 (is':=[9,10]) (us:=[(17,.string t17)]) (by kernel_rfl) ?_
    obtain ⟨g36,hp37⟩:=ite_some hp35
    refine q_val (c:=p32_7) (i:=9) (d:=(some 18)) (ty:=9) (op:=.binOp .add 9 (.tmp 16) (.tmp 17) 9) (v:=.string (((⟨#[48,49,50,51,52,53,54,55,56,57,97,98,99,100,101,102]⟩ : ByteArray).extract (t16.tmod a1).toNat (IntKind.u64.wrap ((t16.tmod a1) + 1)).toNat) ++ t17)) (by kernel_rfl) (by kernel_rfl) (fun w hC o ho _ => x_concat (by kernel_rfl) (by kernel_rfl) g36 ho) ?_
    refine q_run 1 (is':=[]) (us:=[(5,.string (((⟨#[48,49,50,51,52,53,54,55,56,57,97,98,99,100,101,102]⟩ : ByteArray).extract (t16.tmod a1).toNat (IntKind.u64.wrap ((t16.tmod a1) + 1)).toNat) ++ t17))]) (by kernel_rfl) ?_
    refine Qs.nil ?_
    intro w38 hS39
    refine sx_run 3 (todo':=[.inRegion (opsOf p32_8) [2,3],.inBlock 1,.inLoop p32_0,.inBlock 0,.code p32_1]) (us:=[(19,.int .u64 t16),(20,.int .u64 a1)]) (by kernel_rfl) ?_
    obtain ⟨g40,hp41⟩:=ite_some hp37
    refine r_val (c:=p32_8) (i:=2) (d:=(some 21)) (ty:=74) (op:=.binOp .quo 74 (.tmp 19) (.tmp 20) 74) (v:=.int .u64 (IntKind.u64.wrap (t16.tdiv a1))) (by kernel_rfl) (by kernel_rfl) (fun o ho _ => (x_div (by kernel_rfl) (by kernel_rfl) g40).1 ho) ?_
    refine sx_run 3 (todo':=[.inLoop p32_0,.inBlock 0,.code p32_1]) (us:=[(0,.int .u64 (IntKind.u64.wrap (t16.tdiv a1)))]) (by kernel_rfl) ?_
    refine sx_run 1 (todo':=[.code p32_0,.inLoop p32_0,.inBlock 0,.code p32_1]) (us:=[]) (by kernel_rfl) ?_
    refine Runs.fill (m:=(mk 28 [(0,.int .u64 (IntKind.u64.wrap (t16.tdiv a1))),(1,.int .u64 a1),(5,.string (((⟨#[48,49,50,51,52,53,54,55,56,57,97,98,99,100,101,102]⟩ : ByteArray).extract (t16.tmod a1).toNat (IntKind.u64.wrap ((t16.tmod a1) + 1)).toNat) ++ t17))])) (by kernel_rfl) ?_
    exact ih24 (IntKind.u64.wrap (t16.tdiv a1)) (((⟨#[48,49,50,51,52,53,54,55,56,57,97,98,99,100,101,102]⟩ : ByteArray).extract (t16.tmod a1).toNat (IntKind.u64.wrap ((t16.tmod a1) + 1)).toNat) ++ t17) _ hp41 he22 _ _ hS39
   ·skip
    have hp42:=ite_f hb23 h28
    refine sx_run 3 (todo':=[.code p32_1]) (us:=[]) (by kernel_rfl) ?_
    refine Runs.fill (m:=(mk 28 [(0,.int .u64 t16),(5,.string t17)])) (by kernel_rfl) ?_
    exact J8 t16 t17 ((Option.some.inj hp42).trans he22) _ _ hS19
  refine Runs.fill (m:=(mk 28 [(0,.int .u64 a0),(1,.int .u64 a1),(5,.string (⟨#[]⟩ : ByteArray))])) (by kernel_rfl) ?_
  exact L26 a0 (⟨#[]⟩ : ByteArray) _ hv2 rfl _ _ hS0

noncomputable def cd24 (p : List Nat) : Code:=sub (bodyOf Tryd.f24) p
noncomputable abbrev p24_0 : Code:=cd24 [1,0,0]
noncomputable abbrev p24_1 : Code:=cd24 [1,0,1]
noncomputable abbrev p24_2 : Code:=cd24 [1,1]
noncomputable abbrev p24_3 : Code:=cd24 [1,0,1,0,0]
noncomputable abbrev p24_4 : Code:=cd24 [1,0,1,0,1]
noncomputable abbrev p24_5 : Code:=cd24 [1,1,0]
noncomputable abbrev p24_6 : Code:=cd24 [1,1,1]
def weirref04_Text.f (a0 : Int) : Option ByteArray :=
  (if (decide (a0 < 0)) = true then (weirref04_in.f (IntKind.u64.wrap (0 - (IntKind.u64.wrap a0))) 10 >>= (fun t4 => (if (⟨#[45]⟩ : ByteArray).size + t4.size ≤ 9223372036854775807 then some (((⟨#[45]⟩ : ByteArray) ++ t4)) else none))) else (weirref04_in.f (IntKind.u64.wrap a0) 10 >>= (fun t13 => some (t13))))
set_option maxHeartbeats 16000000 in
theorem weirref04_Text.ok (a0 : Int) {w0 : World} {Z : Zm} {fs : List XObj} {w : World} (hS0 : St w0 Z (fs) w) {q0 : ByteArray} (hp0 : weirref04_Text.f a0 = some q0) :
    Calls Tryd.prog 24 #[.int .i64 a0] w (fun e w' => e = .returned (.string q0) ∧ St w0 Z (fs) w'):=by
  refine calls_abs ?_; intro R hR
  unfold weirref04_Text.f at hp0
  refine calls_of_runs (fn:=Tryd.f24) (c:=cd24 []) Tryd.func24 (by kernel_rfl) (al:=[.int .i64 a0]) rfl (n:=12) rfl ?_
  refine sx_split 9 (todo':=[.inRegion (opsOf p24_0) [],.code p24_1,.code p24_2]) (us:=[(2,.string (⟨#[]⟩ : ByteArray)),(3,.int .i64 a0)]) (d:=4) (t:=(decide (a0 < 0))) (by kernel_rfl) (fun h1 => ?_) (fun h2 => ?_)
  ·skip
   have hp3:=ite_t hp0 h1
   refine sx_run 7 (todo':=[.inRegion (opsOf p24_3) [3,4,5],.code p24_4,.code p24_2]) (us:=[(5,.int .i64 a0),(6,.int .u64 (IntKind.u64.wrap a0)),(7,.int .u64 (IntKind.u64.wrap (0 - (IntKind.u64.wrap a0))))]) (by kernel_rfl) ?_
   obtain ⟨t4,hr5,hp6⟩:=bind_some' hp3
   refine r_call1 (c:=p24_3) (i:=3) (d:=(some 8)) (g:=32) (args:=#[.int .u64 (IntKind.u64.wrap (0 - (IntKind.u64.wrap a0))),.int .u64 10]) (by kernel_rfl) (by kernel_rfl) (by kernel_rfl) (by kernel_rfl) (weirref04_in.ok (IntKind.u64.wrap (0 - (IntKind.u64.wrap a0))) 10 hS0 hr5) ?_
   rintro _ w7 ⟨rfl,hS8⟩
   refine ⟨.string t4,rfl,?_⟩
   obtain ⟨g9,hp10⟩:=ite_some hp6
   refine r_val (c:=p24_3) (i:=4) (d:=(some 9)) (ty:=9) (op:=.binOp .add 9 (.const (.string (⟨#[45]⟩ : ByteArray))) (.tmp 8) 9) (v:=.string ((⟨#[45]⟩ : ByteArray) ++ t4)) (by kernel_rfl) (by kernel_rfl) (fun o ho _ => x_concat (by kernel_rfl) (by kernel_rfl) g9 ho) ?_
   refine sx_run 2 (todo':=[.code p24_4,.code p24_2]) (us:=[(2,.string ((⟨#[45]⟩ : ByteArray) ++ t4))]) (by kernel_rfl) ?_
   refine runs_ret (fn:=Tryd.f24) (v:=.string ((⟨#[45]⟩ : ByteArray) ++ t4)) Tryd.func24 (by kernel_rfl) ?_
   have hr11:=(Option.some.inj hp10)
   cases hr11
   exact hR _ _ ⟨rfl,hS8⟩
  ·skip
   have hp12:=ite_f hp0 h2
   refine sx_run 7 (todo':=[.inRegion (opsOf p24_5) [2,3],.code p24_6]) (us:=[(10,.int .i64 a0),(11,.int .u64 (IntKind.u64.wrap a0))]) (by kernel_rfl) ?_
   obtain ⟨t13,hr14,hp15⟩:=bind_some' hp12
   refine r_call1 (c:=p24_5) (i:=2) (d:=(some 12)) (g:=32) (args:=#[.int .u64 (IntKind.u64.wrap a0),.int .u64 10]) (by kernel_rfl) (by kernel_rfl) (by kernel_rfl) (by kernel_rfl) (weirref04_in.ok (IntKind.u64.wrap a0) 10 hS0 hr14) ?_
   rintro _ w16 ⟨rfl,hS17⟩
   refine ⟨.string t13,rfl,?_⟩
   refine sx_run 2 (todo':=[.code p24_6]) (us:=[(2,.string t13)]) (by kernel_rfl) ?_
   refine runs_ret (fn:=Tryd.f24) (v:=.string t13) Tryd.func24 (by kernel_rfl) ?_
   have hr18:=(Option.some.inj hp15)
   cases hr18
   exact hR _ _ ⟨rfl,hS17⟩

noncomputable def cd13 (p : List Nat) : Code:=sub (bodyOf Tryd.f13) p
noncomputable abbrev p13_0 : Code:=cd13 [0]
noncomputable abbrev p13_1 : Code:=cd13 [1]
noncomputable abbrev p13_2 : Code:=cd13 [1,0]
noncomputable abbrev p13_3 : Code:=cd13 [1,1]
noncomputable abbrev p13_4 : Code:=cd13 [1,1,0,0]
noncomputable abbrev p13_5 : Code:=cd13 [1,1,0,1]
noncomputable abbrev p13_6 : Code:=cd13 [1,1,1]
noncomputable abbrev p13_7 : Code:=cd13 [1,1,0,1,0,0]
noncomputable abbrev p13_8 : Code:=cd13 [1,1,0,1,0,1]
noncomputable abbrev p13_9 : Code:=cd13 [1,1,0,1,0,1,0]
noncomputable abbrev p13_10 : Code:=cd13 [1,1,0,1,0,1,1]
noncomputable abbrev p13_11 : Code:=cd13 [1,1,0,1,0,1,1,0]
noncomputable abbrev p13_12 : Code:=cd13 [1,1,1,1]
def weirref15_pick.f (a0 : api_Pick) : Option ByteArray :=
  (weirref04_Text.f a0.Thread >>= (fun t5 => (if t5.size + (⟨#[58,115]⟩ : ByteArray).size ≤ 9223372036854775807 then (if (a0.Kind == 2) = true then (weirref04_Text.f a0.Thread >>= (fun t15 => (if t15.size + (⟨#[58,102]⟩ : ByteArray).size ≤ 9223372036854775807 then (if (a0.Loc != 0) = true then (if (t15 ++ (⟨#[58,102]⟩ : ByteArray)).size + (⟨#[58]⟩ : ByteArray).size ≤ 9223372036854775807 then (weirref04_Text.f a0.Loc >>= (fun t27 => (if ((t15 ++ (⟨#[58,102]⟩ : ByteArray)) ++ (⟨#[58]⟩ : ByteArray)).size + t27.size ≤ 9223372036854775807 then some ((((t15 ++ (⟨#[58,102]⟩ : ByteArray)) ++ (⟨#[58]⟩ : ByteArray)) ++ t27)) else none))) else none) else some ((t15 ++ (⟨#[58,102]⟩ : ByteArray)))) else none))) else some ((t5 ++ (⟨#[58,115]⟩ : ByteArray)))) else none)))
set_option maxHeartbeats 16000000 in
theorem weirref15_pick.ok (a0 : api_Pick) {w0 : World} {Z : Zm} {fs : List XObj} {w : World} (hS0 : St w0 Z (fs) w) {q0 : ByteArray} (hp0 : weirref15_pick.f a0 = some q0) :
    Calls Tryd.prog 13 #[.agg (enc_api_Pick a0).toArray] w (fun e w' => e = .returned (.string q0) ∧ St w0 Z (fs) w'):=by
  refine calls_abs ?_; intro R hR
  unfold weirref15_pick.f at hp0
  refine calls_of_runs (fn:=Tryd.f13) (c:=cd13 []) Tryd.func13 (by kernel_rfl) (al:=[.agg (enc_api_Pick a0).toArray]) rfl (n:=24) rfl ?_
  refine sx_run 2 (todo':=[.inRegion (opsOf p13_0) [0,1],.code p13_1]) (us:=[]) (by kernel_rfl) ?_
  refine r_box (c:=p13_0) (i:=0) (d:=(some 1)) (ty:=0) (x:=(.tmp 0)) (v:=.agg (enc_api_Pick a0).toArray) (t:=24) (cs:=enc_api_Pick a0) hS0 (by kernel_rfl) (by kernel_rfl) (by kernel_rfl) (by kernel_rfl) ?_
  intro b1 w2 hS3
  refine sx_run 5 (todo':=[.inRegion (opsOf p13_2) [1,2,3,4],.code p13_3]) (us:=[(2,.string (⟨#[]⟩ : ByteArray)),(4,.pointer (some ⟨b1,0,none⟩))]) (by kernel_rfl) ?_
  refine r_load (c:=p13_2) (i:=1) (d:=(some 5)) (ty:=3) (t:=3) (x:=(.tmp 4)) (p:=⟨b1,0,none⟩) (v:=.int .i64 a0.Thread) (by kernel_rfl) (by kernel_rfl) (by kernel_rfl) (loads_at 0 (hS3.blk 0 rfl) (by kernel_rfl) (by kernel_rfl)) ?_
  obtain ⟨t5,hr6,hp7⟩:=bind_some' hp0
  refine r_call1 (c:=p13_2) (i:=2) (d:=(some 6)) (g:=24) (args:=#[.int .i64 a0.Thread]) (by kernel_rfl) (by kernel_rfl) (by kernel_rfl) (by kernel_rfl) (weirref04_Text.ok a0.Thread hS3 hr6) ?_
  rintro _ w8 ⟨rfl,hS9⟩
  refine ⟨.string t5,rfl,?_⟩
  obtain ⟨g10,hp11⟩:=ite_some hp7
  refine r_val (c:=p13_2) (i:=3) (d:=(some 7)) (ty:=9) (op:=.binOp .add 9 (.tmp 6) (.const (.string (⟨#[58,115]⟩ : ByteArray))) 9) (v:=.string (t5 ++ (⟨#[58,115]⟩ : ByteArray))) (by kernel_rfl) (by kernel_rfl) (fun o ho _ => x_concat (by kernel_rfl) (by kernel_rfl) g10 ho) ?_
  refine sx_run 6 (todo':=[.inRegion (opsOf p13_4) [1,2],.code p13_5,.code p13_6]) (us:=[(3,.string (t5 ++ (⟨#[58,115]⟩ : ByteArray))),(8,.pointer (some ⟨b1,1,none⟩))]) (by kernel_rfl) ?_
  refine r_load (c:=p13_4) (i:=1) (d:=(some 9)) (ty:=3) (t:=3) (x:=(.tmp 8)) (p:=⟨b1,1,none⟩) (v:=.int .i64 a0.Kind) (by kernel_rfl) (by kernel_rfl) (by kernel_rfl) (loads_at 1 (hS9.blk 0 rfl) (by kernel_rfl) (by kernel_rfl)) ?_
  refine sx_split 1 (todo':=[.inRegion (opsOf p13_4) [],.code p13_5,.code p13_6]) (us:=[]) (d:=10) (t:=(a0.Kind == 2)) (by kernel_rfl) (fun h12 => ?_) (fun h13 => ?_)
  ·skip
   have hp14:=ite_t hp11 h12
   refine sx_run 5 (todo':=[.inRegion (opsOf p13_7) [1,2,3,4],.code p13_8,.code p13_6]) (us:=[(11,.pointer (some ⟨b1,0,none⟩))]) (by kernel_rfl) ?_
   refine r_load (c:=p13_7) (i:=1) (d:=(some 12)) (ty:=3) (t:=3) (x:=(.tmp 11)) (p:=⟨b1,0,none⟩) (v:=.int .i64 a0.Thread) (by kernel_rfl) (by kernel_rfl) (by kernel_rfl) (loads_at 0 (hS9.blk 0 rfl) (by kernel_rfl) (by kernel_rfl)) ?_
   obtain ⟨t15,hr16,hp17⟩:=bind_some' hp14
   refine r_call1 (c:=p13_7) (i:=2) (d:=(some 13)) (g:=24) (args:=#[.int .i64 a0.Thread]) (by kernel_rfl) (by kernel_rfl) (by kernel_rfl) (by kernel_rfl) (weirref04_Text.ok a0.Thread hS9 hr16) ?_
   rintro _ w18 ⟨rfl,hS19⟩
   refine ⟨.string t15,rfl,?_⟩
   obtain ⟨g20,hp21⟩:=ite_some hp17
   refine r_val (c:=p13_7) (i:=3) (d:=(some 14)) (ty:=9) (op:=.binOp .add 9 (.tmp 13) (.const (.string (⟨#[58,102]⟩ : ByteArray))) 9) (v:=.string (t15 ++ (⟨#[58,102]⟩ : ByteArray))) (by kernel_rfl) (by kernel_rfl) (fun o ho _ => x_concat (by kernel_rfl) (by kernel_rfl) g20 ho) ?_
   refine sx_run 5 (todo':=[.inRegion (opsOf p13_9) [1,2],.code p13_10,.code p13_6]) (us:=[(3,.string (t15 ++ (⟨#[58,102]⟩ : ByteArray))),(15,.pointer (some ⟨b1,2,none⟩))]) (by kernel_rfl) ?_
   refine r_load (c:=p13_9) (i:=1) (d:=(some 16)) (ty:=3) (t:=3) (x:=(.tmp 15)) (p:=⟨b1,2,none⟩) (v:=.int .i64 a0.Loc) (by kernel_rfl) (by kernel_rfl) (by kernel_rfl) (loads_at 2 (hS19.blk 0 rfl) (by kernel_rfl) (by kernel_rfl)) ?_
   refine sx_split 1 (todo':=[.inRegion (opsOf p13_9) [],.code p13_10,.code p13_6]) (us:=[]) (d:=17) (t:=(a0.Loc != 0)) (by kernel_rfl) (fun h22 => ?_) (fun h23 => ?_)
   ·skip
    have hp24:=ite_t hp21 h22
    refine sx_run 4 (todo':=[.inRegion (opsOf p13_11) [1,2,3,4,5,6],.code p13_6]) (us:=[(18,.string (t15 ++ (⟨#[58,102]⟩ : ByteArray)))]) (by kernel_rfl) ?_
    obtain ⟨g25,hp26⟩:=ite_some hp24
    refine r_val (c:=p13_11) (i:=1) (d:=(some 19)) (ty:=9) (op:=.binOp .add 9 (.tmp 18) (.const (.string (⟨#[58]⟩ : ByteArray))) 9) (v:=.string ((t15 ++ (⟨#[58,102]⟩ : ByteArray)) ++ (⟨#[58]⟩ : ByteArray))) (by kernel_rfl) (by kernel_rfl) (fun o ho _ => x_concat (by kernel_rfl) (by kernel_rfl) g25 ho) ?_
    refine sx_run 1 (todo':=[.inRegion (opsOf p13_11) [3,4,5,6],.code p13_6]) (us:=[(20,.pointer (some ⟨b1,2,none⟩))]) (by kernel_rfl) ?_
    refine r_load (c:=p13_11) (i:=3) (d:=(some 21)) (ty:=3) (t:=3) (x:=(.tmp 20)) (p:=⟨b1,2,none⟩) (v:=.int .i64 a0.Loc) (by kernel_rfl) (by kernel_rfl) (by kernel_rfl) (loads_at 2 (hS19.blk 0 rfl) (by kernel_rfl) (by kernel_rfl)) ?_
    obtain ⟨t27,hr28,hp29⟩:=bind_some' hp26
    refine r_call1 (c:=p13_11) (i:=4) (d:=(some 22)) (g:=24) (args:=#[.int .i64 a0.Loc]) (by kernel_rfl) (by kernel_rfl) (by kernel_rfl) (by kernel_rfl) (weirref04_Text.ok a0.Loc hS19 hr28) ?_
    rintro _ w30 ⟨rfl,hS31⟩
    refine ⟨.string t27,rfl,?_⟩
    obtain ⟨g32,hp33⟩:=ite_some hp29
    refine r_val (c:=p13_11) (i:=5) (d:=(some 23)) (ty:=9) (op:=.binOp .add 9 (.tmp 19) (.tmp 22) 9) (v:=.string (((t15 ++ (⟨#[58,102]⟩ : ByteArray)) ++ (⟨#[58]⟩ : ByteArray)) ++ t27)) (by kernel_rfl) (by kernel_rfl) (fun o ho _ => x_concat (by kernel_rfl) (by kernel_rfl) g32 ho) ?_
    refine sx_run 7 (todo':=[.code p13_12]) (us:=[(3,.string (((t15 ++ (⟨#[58,102]⟩ : ByteArray)) ++ (⟨#[58]⟩ : ByteArray)) ++ t27)),(24,.string (((t15 ++ (⟨#[58,102]⟩ : ByteArray)) ++ (⟨#[58]⟩ : ByteArray)) ++ t27)),(2,.string (((t15 ++ (⟨#[58,102]⟩ : ByteArray)) ++ (⟨#[58]⟩ : ByteArray)) ++ t27))]) (by kernel_rfl) ?_
    have hS34:=hS31.drop
    refine runs_ret (fn:=Tryd.f13) (v:=.string (((t15 ++ (⟨#[58,102]⟩ : ByteArray)) ++ (⟨#[58]⟩ : ByteArray)) ++ t27)) Tryd.func13 (by kernel_rfl) ?_
    have hr35:=(Option.some.inj hp33)
    cases hr35
    exact hR _ _ ⟨rfl,hS34⟩
   ·skip
    have hp36:=ite_f hp21 h23
    refine sx_run 8 (todo':=[.code p13_12]) (us:=[(24,.string (t15 ++ (⟨#[58,102]⟩ : ByteArray))),(2,.string (t15 ++ (⟨#[58,102]⟩ : ByteArray)))]) (by kernel_rfl) ?_
    have hS37:=hS19.drop
    refine runs_ret (fn:=Tryd.f13) (v:=.string (t15 ++ (⟨#[58,102]⟩ : ByteArray))) Tryd.func13 (by kernel_rfl) ?_
    have hr38:=(Option.some.inj hp36)
    cases hr38
    exact hR _ _ ⟨rfl,hS37⟩
  ·skip
   have hp39:=ite_f hp11 h13
   refine sx_run 8 (todo':=[.code p13_12]) (us:=[(24,.string (t5 ++ (⟨#[58,115]⟩ : ByteArray))),(2,.string (t5 ++ (⟨#[58,115]⟩ : ByteArray)))]) (by kernel_rfl) ?_
   have hS40:=hS9.drop
   refine runs_ret (fn:=Tryd.f13) (v:=.string (t5 ++ (⟨#[58,115]⟩ : ByteArray))) Tryd.func13 (by kernel_rfl) ?_
   have hr41:=(Option.some.inj hp39)
   cases hr41
   exact hR _ _ ⟨rfl,hS40⟩

noncomputable def cd5 (p : List Nat) : Code:=sub (bodyOf Tryd.f5) p
noncomputable abbrev p5_0 : Code:=cd5 [1,0,1,0,0]
noncomputable abbrev p5_1 : Code:=cd5 [1,1]
noncomputable abbrev p5_2 : Code:=cd5 [1,1,1,0,1,0,0]
noncomputable abbrev p5_3 : Code:=cd5 [1,1,1,1]
noncomputable abbrev p5_4 : Code:=cd5 [1,1,1,1,0,0]
noncomputable abbrev p5_5 : Code:=cd5 [1,1,1,1,0,1]
noncomputable abbrev p5_6 : Code:=cd5 [1,1,1,1,1]
noncomputable abbrev p5_7 : Code:=cd5 [1,1,1,1,0,1,0,1]
noncomputable abbrev p5_8 : Code:=cd5 [1,1,1,1,1,0]
noncomputable abbrev p5_9 : Code:=cd5 [1,1,1,1,1,1]
noncomputable abbrev p5_10 : Code:=cd5 [1,1,1,0,1,0,0,0,0]
noncomputable abbrev p5_11 : Code:=cd5 [1,1,1,0,1,0,0,0,1]
noncomputable abbrev p5_12 : Code:=cd5 [1,1,1,0,1,0,0,1]
noncomputable abbrev p5_13 : Code:=cd5 [1,1,1,0,1,0,0,1,0,0,1]
noncomputable abbrev p5_14 : Code:=cd5 [1,1,1,0,1,0,0,1,1]
noncomputable abbrev p5_15 : Code:=cd5 [1,1,1,0,1,0,0,1,0,0,0,0]
noncomputable abbrev p5_16 : Code:=cd5 [1,1,1,0,1,0,0,1,0,0,0,1]
noncomputable abbrev p5_17 : Code:=cd5 [1,1,1,0,1,0,0,1,0,0,0,1,0]
noncomputable abbrev p5_18 : Code:=cd5 [1,0,1,0,0,0,0]
noncomputable abbrev p5_19 : Code:=cd5 [1,0,1,0,0,0,1]
noncomputable abbrev p5_20 : Code:=cd5 [1,0,1,0,0,1]
noncomputable abbrev p5_21 : Code:=cd5 [1,0,1,0,0,1,0,0,0]
noncomputable abbrev p5_22 : Code:=cd5 [1,0,1,0,0,1,0,0,1]
noncomputable abbrev p5_23 : Code:=cd5 [1,0,1,0,0,1,1]
noncomputable abbrev p5_24 : Code:=cd5 [1,0,1,0,0,1,0,0,1,0,1]
def weirref15_Text.l1 (a0 : List api_Pick) (t30 : List Int) (t34 : Int) : Option (List Int) :=
  (if (decide (t34 < (a0.length : Int))) = true then (if (decide ((t30.length : Int) ≤ 1048576)) = true then (((if (decide (t34 > 0)) = true then (if (t30.length + ([32] : List Int).length) * 1 ≤ 140737488355328 then some ((t30 ++ ([32] : List Int))) else none) else some (t30)) : Option (List Int)) >>= (fun t53 => (if 0 ≤ t34 ∧ t34 < (a0.length : Int) then (weirref15_pick.f (gt a0 t34) >>= (fun t68 => (if (t53.length + (strBytes t68).length) * 1 ≤ 140737488355328 then (weirref15_Text.l1 a0 (t53 ++ (strBytes t68)) (IntKind.i64.wrap (t34 + 1))) else none))) else none))) else some (t30)) else some (t30))
 partial_fixpoint
def weirref15_Text.l0 (a0 : List api_Pick) (t102 : Int) : Option (Sum Unit (ByteArray × Int)) :=
  (if (decide (t102 < (a0.length : Int))) = true then (if 0 ≤ t102 ∧ t102 < (a0.length : Int) then (weirref15_has.f (gt a0 t102) >>= (fun t122 => (if (!t122) = true then some (.inr (((⟨#[]⟩ : ByteArray),150))) else (weirref15_Text.l0 a0 (IntKind.i64.wrap (t102 + 1)))))) else none) else some (.inl ()))
 partial_fixpoint
def weirref15_Text.f (a0 : List api_Pick) : Option (ByteArray × Int) :=
  (weirref15_Text.l0 a0 0 >>= (fun | .inl () => (weirref15_Text.l1 a0 [] 0 >>= (fun t13 => (if (decide ((t13.length : Int) > 1048576)) = true then some (((⟨#[]⟩ : ByteArray),1)) else some (((ofBytes t13),0))))) | .inr e => some e))
set_option maxHeartbeats 16000000 in
theorem weirref15_Text.ok (a0 : List api_Pick) (Aa0 : Option Addr) (ca0 : Nat) {w0 : World} {Z : Zm} {fs : List XObj} {w : World} (hS0 : St w0 Z (fs) w) (ha0 : SlZ (flat enc_api_Pick) 3 Z Aa0 ca0 a0) {q0 : ByteArray} {q1 : Int} (hp0 : weirref15_Text.f a0 = some (q0,q1)) :
    Calls Tryd.prog 5 #[.slice Aa0 a0.length ca0] w (fun e w' => e = .returned (.tuple #[.string q0,.int .i64 q1]) ∧ St w0 Z (fs) w'):=by
  refine calls_abs ?_; intro R hR
  unfold weirref15_Text.f at hp0
  refine calls_of_runs (fn:=Tryd.f5) (c:=cd5 []) Tryd.func5 (by kernel_rfl) (al:=[.slice Aa0 a0.length ca0]) rfl (n:=46) rfl ?_
  refine sx_run 12 (todo':=[.code p5_0,.inLoop p5_0,.inBlock 0,.code p5_1]) (us:=[(2,.string (⟨#[]⟩ : ByteArray)),(3,.int .i64 0),(4,.int .i64 0)]) (by kernel_rfl) ?_
  obtain ⟨v1,hv2,hp3⟩:=bind_some' hp0
  have hq6 : ∀ x,Sum.inr x = v1 → x = (q0,q1):=by intro x hx; subst hx; simpa using hp3
  have J7 : ∀ (he9 : Sum.inl () = v1) (l8 : List Value) (w4 : World) (hS5 : St w0 Z (fs) w4),Runs Tryd.prog (fx 5) [.code p5_1] (fill (mk 47 [(0,.slice Aa0 a0.length ca0)]) l8) w4 R:=by
   intro he9 l8 w4 hS5
   subst he9
   try dsimp only at hp3
   refine sx_run 11 (todo':=[.code p5_2,.inLoop p5_2,.inBlock 2,.code p5_3]) (us:=[(5,.slice none 0 0),(6,.int .i64 0)]) (by kernel_rfl) ?_
   obtain ⟨v10,hv11,hp12⟩:=bind_some' hp3
   have J19 : ∀ (t13 : List Int) (he21 : t13 = v10) (l20 : List Value) (A14 : Option Addr) (c15 : Nat) (w17 : World) (hS18 : St w0 Z (xrow A14 c15 5 1 (t13.flatMap (encI .u8))::fs) w17),Runs Tryd.prog (fx 5) [.code p5_3] (fill (mk 47 [(5,.slice A14 t13.length c15)]) l20) w17 R:=by
    intro t13 he21 l20 A14 c15 w17 hS18
    subst he21
    try dsimp only at hp12
    refine sx_split 6 (todo':=[.inRegion (opsOf p5_4) [],.code p5_5,.code p5_6]) (us:=[(42,.slice A14 t13.length c15),(43,.int .i64 (t13.length : Int))]) (d:=44) (t:=(decide ((t13.length : Int) > 1048576))) (by kernel_rfl) (fun h22 => ?_) (fun h23 => ?_)
    ·skip
     have hp24:=ite_t hp12 h22
     refine sx_run 7 (todo':=[.code p5_7,.code p5_6]) (us:=[(2,.string (⟨#[]⟩ : ByteArray)),(3,.int .i64 1)]) (by kernel_rfl) ?_
     have hS25:=hS18.drop
     refine runs_ret (fn:=Tryd.f5) (v:=.tuple #[.string (⟨#[]⟩ : ByteArray),.int .i64 1]) Tryd.func5 (by kernel_rfl) ?_
     have hr26:=(Option.some.inj hp24)
     cases hr26
     exact hR _ _ ⟨rfl,hS25⟩
    ·skip
     have hp27:=ite_f hp12 h23
     refine sx_run 6 (todo':=[.inRegion (opsOf p5_8) [1,2,3],.code p5_9]) (us:=[(45,.slice A14 t13.length c15)]) (by kernel_rfl) ?_
     refine r_val (c:=p5_8) (i:=1) (d:=(some 46)) (ty:=9) (op:=.convert 46 9 (.tmp 45)) (v:=.string (ofBytes t13)) (by kernel_rfl) (by kernel_rfl) (fun o ho _ => x_bytesStr (e:=5) (A:=A14) (c:=c15) (by kernel_rfl) (src_row (hS18.row 0 rfl) (by omega) (len_encI .u8)) (by kernel_rfl) (by kernel_rfl) (by kernel_rfl) ho) ?_
     refine sx_run 3 (todo':=[.code p5_9]) (us:=[(2,.string (ofBytes t13)),(3,.int .i64 0)]) (by kernel_rfl) ?_
     have hS28:=hS18.drop
     refine runs_ret (fn:=Tryd.f5) (v:=.tuple #[.string (ofBytes t13),.int .i64 0]) Tryd.func5 (by kernel_rfl) ?_
     have hr29:=(Option.some.inj hp27)
     cases hr29
     exact hR _ _ ⟨rfl,hS28⟩
   have L43 : ∀ (t30 : List Int) (t34 : Int) (e38 : (List Int)),weirref15_Text.l1 a0 t30 t34 = some e38 → e38 = v10 → ∀ (l37 : List Value) (A31 : Option Addr) (c32 : Nat) (w35 : World) (hS36 : St w0 Z (xrow A31 c32 5 1 (t30.flatMap (encI .u8))::fs) w35),Runs Tryd.prog (fx 5) [.code p5_2,.inLoop p5_2,.inBlock 2,.code p5_3] (fill (mk 47 [(0,.slice Aa0 a0.length ca0),(5,.slice A31 t30.length c32),(6,.int .i64 t34)]) l37) w35 R:=by
    refine weirref15_Text.l1.partial_correctness a0 (fun t30 t34 e38 => e38 = v10 → ∀ (l37 : List Value) (A31 : Option Addr) (c32 : Nat) (w35 : World) (hS36 : St w0 Z (xrow A31 c32 5 1 (t30.flatMap (encI .u8))::fs) w35),Runs Tryd.prog (fx 5) [.code p5_2,.inLoop p5_2,.inBlock 2,.code p5_3] (fill (mk 47 [(0,.slice Aa0 a0.length ca0),(5,.slice A31 t30.length c32),(6,.int .i64 t34)]) l37) w35 R) ?_
    intro rec42 ih41 t30 t34 e38 hb40 he39 l37 A31 c32 w35 hS36
    refine sx_split 7 (todo':=[.inRegion (opsOf p5_10) [4,5,6,7,8],.code p5_11,.code p5_12,.inLoop p5_2,.inBlock 2,.code p5_3]) (us:=[(19,.int .i64 t34),(20,.slice Aa0 a0.length ca0),(21,.int .i64 (a0.length : Int))]) (d:=22) (t:=(decide (t34 < (a0.length : Int)))) (by kernel_rfl) (fun h44 => ?_) (fun h45 => ?_)
    ·skip
     have hp46:=ite_t hb40 h44
     refine sx_split 4 (todo':=[.inRegion (opsOf p5_10) [8],.code p5_11,.code p5_12,.inLoop p5_2,.inBlock 2,.code p5_3]) (us:=[(23,.bool true),(24,.slice A31 t30.length c32),(25,.int .i64 (t30.length : Int))]) (d:=26) (t:=(decide ((t30.length : Int) ≤ 1048576))) (by kernel_rfl) (fun h47 => ?_) (fun h48 => ?_)
     ·skip
      have hp49:=ite_t hp46 h47
      obtain ⟨v50,hv51,hp52⟩:=bind_some' hp49
      have J59 : ∀ (t53 : List Int) (he61 : t53 = v50) (l60 : List Value) (A54 : Option Addr) (c55 : Nat) (w57 : World) (hS58 : St w0 Z (xrow A54 c55 5 1 (t53.flatMap (encI .u8))::fs) w57),Runs Tryd.prog (fx 5) [.code p5_13,.inBlock 3,.code p5_14,.inLoop p5_2,.inBlock 2,.code p5_3] (fill (mk 47 [(0,.slice Aa0 a0.length ca0),(5,.slice A54 t53.length c55),(6,.int .i64 t34)]) l60) w57 R:=by
       intro t53 he61 l60 A54 c55 w57 hS58
       subst he61
       try dsimp only at hp52
       refine sx_run 4 (todo':=[.inRegion (opsOf p5_13) [3,4,5,6,7],.inBlock 3,.code p5_14,.inLoop p5_2,.inBlock 2,.code p5_3]) (us:=[(35,.slice A54 t53.length c55),(36,.slice Aa0 a0.length ca0),(37,.int .i64 t34)]) (by kernel_rfl) ?_
       obtain ⟨g62,hp63⟩:=ite_some hp52
       obtain ⟨b64,p65,hA66,hc67⟩:=ha0.atF g62.1 g62.2
       refine r_indexAddr (c:=p5_13) (i:=3) (d:=(some 38)) (ty:=0) (t:=22) (e:=24) (n:=a0.length) (cp:=ca0) (sz:=3) (kk:=.i64) (x:=(.tmp 36)) (y:=(.tmp 37)) (b:=b64) (o':=p65) (j:=t34) (by kernel_rfl) (by kernel_rfl) (slv (by kernel_rfl) hA66) (by kernel_rfl) (by kernel_rfl) (by kernel_rfl) g62.1 g62.2 ?_
       refine r_load (c:=p5_13) (i:=4) (d:=(some 39)) (ty:=24) (t:=24) (x:=(.tmp 38)) (p:=⟨b64,p65 + t34.toNat * 3,none⟩) (v:=.agg (enc_api_Pick (gt a0 t34)).toArray) (by kernel_rfl) (by kernel_rfl) (by kernel_rfl) (loads_agg (hc67.cells hS58) (by kernel_rfl) (by kernel_rfl)) ?_
       obtain ⟨t68,hr69,hp70⟩:=bind_some' hp63
       refine r_call1 (c:=p5_13) (i:=5) (d:=(some 40)) (g:=13) (args:=#[.agg (enc_api_Pick (gt a0 t34)).toArray]) (by kernel_rfl) (by kernel_rfl) (by kernel_rfl) (by kernel_rfl) (weirref15_pick.ok (gt a0 t34) hS58 hr69) ?_
       rintro _ w71 ⟨rfl,hS72⟩
       refine ⟨.string t68,rfl,?_⟩
       obtain ⟨g73,hp74⟩:=ite_some hp70
       refine r_append (c:=p5_13) (i:=6) (d:=(some 41)) (ty:=46) (enc:=(encI .u8)) (e:=5) (u:=0) (t:=46) (t2:=9) (sz:=1) (cp:=c55) (A:=A54) (bytes:=1) (xs:=t53) (ys:=(strBytes t68)) (s:=(.tmp 35)) (x:=(.tmp 40)) (xv:=.string t68) (info:=infoOf Tryd.prog 5) (z:=zeroOf Tryd.prog 5) (ycs:=(strBytes t68).map (Value.int .u8)) hS72 (by kernel_rfl) (by kernel_rfl) (by kernel_rfl) (by kernel_rfl) (by kernel_rfl) (.inr (by kernel_rfl)) (by kernel_rfl) (by kernel_rfl) (by kernel_rfl) (by kernel_rfl) (by kernel_rfl) (by omega) (len_encI .u8) (one_encI .u8) (by have h:=src_str (P:=Tryd.prog) (w:=w71) t68; rwa [show t68.size = (strBytes t68).length from by simp [strBytes]] at h) (flat_encI .u8 _).symm g73 (by omega) ?_
       intro A75 c76 w77 hS78
       refine sx_run 8 (todo':=[.inLoop p5_2,.inBlock 2,.code p5_3]) (us:=[(5,.slice A75 (t53 ++ (strBytes t68)).length c76),(28,.int .i64 t34),(29,.int .i64 (IntKind.i64.wrap (t34 + 1))),(6,.int .i64 (IntKind.i64.wrap (t34 + 1)))]) (by kernel_rfl) ?_
       refine sx_run 1 (todo':=[.code p5_2,.inLoop p5_2,.inBlock 2,.code p5_3]) (us:=[]) (by kernel_rfl) ?_
       refine Runs.fill (m:=(mk 47 [(0,.slice Aa0 a0.length ca0),(5,.slice A75 (t53 ++ (strBytes t68)).length c76),(6,.int .i64 (IntKind.i64.wrap (t34 + 1)))])) (by kernel_rfl) ?_
       exact ih41 (t53 ++ (strBytes t68)) (IntKind.i64.wrap (t34 + 1)) _ hp74 he39 _ A75 c76 _ hS78
      refine sx_split 11 (todo':=[.inRegion (opsOf p5_15) [],.code p5_16,.code p5_13,.inBlock 3,.code p5_14,.inLoop p5_2,.inBlock 2,.code p5_3]) (us:=[(27,.bool true),(30,.int .i64 t34)]) (d:=31) (t:=(decide (t34 > 0))) (by kernel_rfl) (fun h80 => ?_) (fun h81 => ?_)
      ·skip
       have hp82:=ite_t hv51 h80
       refine sx_run 4 (todo':=[.inRegion (opsOf p5_17) [1,2,3],.code p5_13,.inBlock 3,.code p5_14,.inLoop p5_2,.inBlock 2,.code p5_3]) (us:=[(32,.slice A31 t30.length c32)]) (by kernel_rfl) ?_
       refine r_lit (c:=p5_17) (i:=1) (d:=(some 33)) (ty:=46) (t:=46) (e:=5) (sz:=1) (n:=1) (parts:=#[(0,(.const (.int .u8 32)))]) (vs:=[(0,.int .u8 32)]) (z:=zeroOf Tryd.prog 5) (cs':=([32] : List Int).flatMap (encI .u8)) hS36 (by kernel_rfl) (by kernel_rfl) (by kernel_rfl) (by kernel_rfl) (by kernel_rfl) (by decide) (by decide) (by kernel_rfl) rfl (Parts.cons (c:=[.int .u8 32]) (by kernel_rfl) rfl Parts.nil) rfl ?_
       intro b84 w85 hS86
       have hS87:=hS86.pick1
       obtain ⟨g88,hp89⟩:=ite_some hp82
       refine r_append (c:=p5_17) (i:=2) (d:=(some 34)) (ty:=46) (enc:=(encI .u8)) (e:=5) (u:=5) (t:=46) (t2:=46) (sz:=1) (cp:=c32) (A:=A31) (bytes:=1) (xs:=t30) (ys:=([32] : List Int)) (s:=(.tmp 32)) (x:=(.tmp 33)) (xv:=.slice (some ⟨b84,0,none⟩) ([32] : List Int).length 1) (info:=infoOf Tryd.prog 5) (z:=zeroOf Tryd.prog 5) (ycs:=([32] : List Int).flatMap (encI .u8)) hS87 (by kernel_rfl) (by kernel_rfl) (by kernel_rfl) (by kernel_rfl) (by kernel_rfl) (.inl (by kernel_rfl)) (by kernel_rfl) (by kernel_rfl) (by kernel_rfl) (by kernel_rfl) (by kernel_rfl) (by omega) (len_encI .u8) (one_encI .u8) (src_row (hS87.row 1 rfl) (by omega) (len_encI .u8)) rfl g88 (by omega) ?_
       intro A90 c91 w92 hS93
       refine sx_run 2 (todo':=[.code p5_13,.inBlock 3,.code p5_14,.inLoop p5_2,.inBlock 2,.code p5_3]) (us:=[(5,.slice A90 (t30 ++ ([32] : List Int)).length c91)]) (by kernel_rfl) ?_
       have hS95:=hS93.pick1
       have hS96:=hS95.drop
       refine Runs.fill (m:=(mk 47 [(0,.slice Aa0 a0.length ca0),(5,.slice A90 (t30 ++ ([32] : List Int)).length c91),(6,.int .i64 t34)])) (by kernel_rfl) ?_
       exact J59 (t30 ++ ([32] : List Int)) (Option.some.inj hp89) _ A90 c91 _ hS96
      ·skip
       have hp97:=ite_f hv51 h81
       refine sx_run 3 (todo':=[.code p5_13,.inBlock 3,.code p5_14,.inLoop p5_2,.inBlock 2,.code p5_3]) (us:=[]) (by kernel_rfl) ?_
       refine Runs.fill (m:=(mk 47 [(0,.slice Aa0 a0.length ca0),(5,.slice A31 t30.length c32),(6,.int .i64 t34)])) (by kernel_rfl) ?_
       exact J59 t30 (Option.some.inj hp97) _ A31 c32 _ hS36
     ·skip
      have hp98:=ite_f hp46 h48
      refine sx_run 4 (todo':=[.code p5_3]) (us:=[(27,.bool false)]) (by kernel_rfl) ?_
      refine Runs.fill (m:=(mk 47 [(5,.slice A31 t30.length c32)])) (by kernel_rfl) ?_
      exact J19 t30 ((Option.some.inj hp98).trans he39) _ A31 c32 _ hS36
    ·skip
     have hp99:=ite_f hb40 h45
     refine sx_run 8 (todo':=[.code p5_3]) (us:=[(23,.bool false),(24,undef),(25,undef),(26,undef),(27,.bool false)]) (by kernel_rfl) ?_
     refine Runs.fill (m:=(mk 47 [(5,.slice A31 t30.length c32)])) (by kernel_rfl) ?_
     exact J19 t30 ((Option.some.inj hp99).trans he39) _ A31 c32 _ hS36
   have hS101:=hS5.nilrow none 5 1
   refine Runs.fill (m:=(mk 47 [(0,.slice Aa0 a0.length ca0),(5,.slice none 0 0),(6,.int .i64 0)])) (by kernel_rfl) ?_
   exact L43 [] 0 _ hv11 rfl _ none 0 _ hS101
  have L111 : ∀ (t102 : Int) (e106 : Sum Unit (ByteArray × Int)),weirref15_Text.l0 a0 t102 = some e106 → e106 = v1 → ∀ (l105 : List Value) (w103 : World) (hS104 : St w0 Z (fs) w103),Runs Tryd.prog (fx 5) [.code p5_0,.inLoop p5_0,.inBlock 0,.code p5_1] (fill (mk 47 [(0,.slice Aa0 a0.length ca0),(4,.int .i64 t102)]) l105) w103 R:=by
   refine weirref15_Text.l0.partial_correctness a0 (fun t102 e106 => e106 = v1 → ∀ (l105 : List Value) (w103 : World) (hS104 : St w0 Z (fs) w103),Runs Tryd.prog (fx 5) [.code p5_0,.inLoop p5_0,.inBlock 0,.code p5_1] (fill (mk 47 [(0,.slice Aa0 a0.length ca0),(4,.int .i64 t102)]) l105) w103 R) ?_
   intro rec110 ih109 t102 e106 hb108 he107 l105 w103 hS104
   have hq112 : ∀ x,Sum.inr x = e106 → x = (q0,q1):=fun x hx => hq6 x (hx.trans he107)
   refine sx_split 7 (todo':=[.inRegion (opsOf p5_18) [],.code p5_19,.code p5_20,.inLoop p5_0,.inBlock 0,.code p5_1]) (us:=[(7,.int .i64 t102),(8,.slice Aa0 a0.length ca0),(9,.int .i64 (a0.length : Int))]) (d:=10) (t:=(decide (t102 < (a0.length : Int)))) (by kernel_rfl) (fun h113 => ?_) (fun h114 => ?_)
   ·skip
    have hp115:=ite_t hb108 h113
    refine sx_run 9 (todo':=[.inRegion (opsOf p5_21) [2,3,4,5],.code p5_22,.inBlock 1,.code p5_23,.inLoop p5_0,.inBlock 0,.code p5_1]) (us:=[(13,.slice Aa0 a0.length ca0),(14,.int .i64 t102)]) (by kernel_rfl) ?_
    obtain ⟨g116,hp117⟩:=ite_some hp115
    obtain ⟨b118,p119,hA120,hc121⟩:=ha0.atF g116.1 g116.2
    refine r_indexAddr (c:=p5_21) (i:=2) (d:=(some 15)) (ty:=0) (t:=22) (e:=24) (n:=a0.length) (cp:=ca0) (sz:=3) (kk:=.i64) (x:=(.tmp 13)) (y:=(.tmp 14)) (b:=b118) (o':=p119) (j:=t102) (by kernel_rfl) (by kernel_rfl) (slv (by kernel_rfl) hA120) (by kernel_rfl) (by kernel_rfl) (by kernel_rfl) g116.1 g116.2 ?_
    refine r_load (c:=p5_21) (i:=3) (d:=(some 16)) (ty:=24) (t:=24) (x:=(.tmp 15)) (p:=⟨b118,p119 + t102.toNat * 3,none⟩) (v:=.agg (enc_api_Pick (gt a0 t102)).toArray) (by kernel_rfl) (by kernel_rfl) (by kernel_rfl) (loads_agg (hc121.cells hS104) (by kernel_rfl) (by kernel_rfl)) ?_
    obtain ⟨t122,hr123,hp124⟩:=bind_some' hp117
    refine r_call1 (c:=p5_21) (i:=4) (d:=(some 17)) (g:=12) (args:=#[.agg (enc_api_Pick (gt a0 t102)).toArray]) (by kernel_rfl) (by kernel_rfl) (by kernel_rfl) (by kernel_rfl) (weirref15_has.ok (gt a0 t102) hS104 hr123) ?_
    rintro _ w125 ⟨rfl,hS126⟩
    refine ⟨.bool t122,rfl,?_⟩
    refine sx_split 1 (todo':=[.inRegion (opsOf p5_21) [],.code p5_22,.inBlock 1,.code p5_23,.inLoop p5_0,.inBlock 0,.code p5_1]) (us:=[]) (d:=18) (t:=(!t122)) (by kernel_rfl) (fun h127 => ?_) (fun h128 => ?_)
    ·skip
     have hp129:=ite_t hp124 h127
     refine sx_run 7 (todo':=[.code p5_24,.inBlock 1,.code p5_23,.inLoop p5_0,.inBlock 0,.code p5_1]) (us:=[(2,.string (⟨#[]⟩ : ByteArray)),(3,.int .i64 150)]) (by kernel_rfl) ?_
     refine runs_ret (fn:=Tryd.f5) (v:=.tuple #[.string (⟨#[]⟩ : ByteArray),.int .i64 150]) Tryd.func5 (by kernel_rfl) ?_
     have hr130:=(hq112 _ (Option.some.inj hp129))
     cases hr130
     exact hR _ _ ⟨rfl,hS126⟩
    ·skip
     have hp131:=ite_f hp124 h128
     refine sx_run 9 (todo':=[.inLoop p5_0,.inBlock 0,.code p5_1]) (us:=[(11,.int .i64 t102),(12,.int .i64 (IntKind.i64.wrap (t102 + 1))),(4,.int .i64 (IntKind.i64.wrap (t102 + 1)))]) (by kernel_rfl) ?_
     refine sx_run 1 (todo':=[.code p5_0,.inLoop p5_0,.inBlock 0,.code p5_1]) (us:=[]) (by kernel_rfl) ?_
     refine Runs.fill (m:=(mk 47 [(0,.slice Aa0 a0.length ca0),(4,.int .i64 (IntKind.i64.wrap (t102 + 1)))])) (by kernel_rfl) ?_
     exact ih109 (IntKind.i64.wrap (t102 + 1)) _ hp131 he107 _ _ hS126
   ·skip
    have hp132:=ite_f hb108 h114
    refine sx_run 3 (todo':=[.code p5_1]) (us:=[]) (by kernel_rfl) ?_
    refine Runs.fill (m:=(mk 47 [(0,.slice Aa0 a0.length ca0)])) (by kernel_rfl) ?_
    exact J7 ((Option.some.inj hp132).trans he107) _ _ hS104
  refine Runs.fill (m:=(mk 47 [(0,.slice Aa0 a0.length ca0),(4,.int .i64 0)])) (by kernel_rfl) ?_
  exact L111 0 _ hv2 rfl _ _ hS0

noncomputable def cd27 (p : List Nat) : Code:=sub (bodyOf Tryd.f27) p
noncomputable abbrev p27_0 : Code:=cd27 [1,0]
noncomputable abbrev p27_1 : Code:=cd27 [1,1]
noncomputable abbrev p27_2 : Code:=cd27 [1,1,0]
noncomputable abbrev p27_3 : Code:=cd27 [1,1,1]
def script_number.f (a0 : ByteArray) : Option (Int × Bool) :=
  (strconv_Atoi.f a0 >>= (fun (t1,t2) => (if t2 = true then (if (decide (t1 ≤ 9999)) = true then (strconv_Itoa.f t1 >>= (fun t14 => (if (seq t14 a0) = true then (if (decide (t1 ≥ 0)) = true then some ((t1,true)) else some ((t1,false))) else some ((t1,false))))) else some ((t1,false))) else some ((t1,false)))))
set_option maxHeartbeats 16000000 in
theorem script_number.ok (a0 : ByteArray) {w0 : World} {Z : Zm} {fs : List XObj} {w : World} (hS0 : St w0 Z (fs) w) (hE : Env Z) {q0 : Int} {q1 : Bool} (hp0 : script_number.f a0 = some (q0,q1)) :
    Calls Tryd.prog 27 #[.string a0] w (fun e w' => e = .returned (.tuple #[.int .i64 q0,.bool q1]) ∧ St w0 Z (fs) w'):=by
  refine calls_abs ?_; intro R hR
  unfold script_number.f at hp0
  refine calls_of_runs (fn:=Tryd.f27) (c:=cd27 []) Tryd.func27 (by kernel_rfl) (al:=[.string a0]) rfl (n:=27) rfl ?_
  refine sx_run 8 (todo':=[.inRegion (opsOf p27_0) [1,2,3,4,5,6],.code p27_1]) (us:=[(2,.int .i64 0),(3,.bool false),(7,.string a0)]) (by kernel_rfl) ?_
  obtain ⟨⟨t1,t2⟩,hr4,hp5⟩:=bind_some' hp0
  try dsimp only at hp5
  refine r_call1 (c:=p27_0) (i:=1) (d:=(some 8)) (g:=35) (args:=#[.string a0]) (by kernel_rfl) (by kernel_rfl) (by kernel_rfl) (by kernel_rfl) (strconv_Atoi.ok a0 hS0 hE hr4) ?_
  rintro _ w6 ⟨Q3,rfl,hS7⟩
  refine ⟨.tuple #[.int .i64 t1,cond t2 .nilIface (.iface 94 (Q3))],rfl,?_⟩
  refine sx_run 10 (todo':=[.inRegion (opsOf p27_2) [2,3,4,5,6,7,8,9,10,11,12,13,14,15,16,17,18],.code p27_3]) (us:=[(6,.tuple #[.int .i64 t1,cond t2 .nilIface (.iface 94 (Q3))]),(9,.int .i64 t1),(10,cond t2 .nilIface (.iface 94 (Q3))),(4,.int .i64 t1),(5,cond t2 .nilIface (.iface 94 (Q3))),(11,.int .i64 t1),(12,cond t2 .nilIface (.iface 94 (Q3)))]) (by kernel_rfl) ?_
  cases t2
  ·skip
   have hp8:=ite_f hp5 rfl
   refine sx_run 18 (todo':=[.code p27_3]) (us:=[(13,.bool false),(14,.bool false),(15,undef),(16,undef),(17,.bool false),(18,.bool false),(19,undef),(20,undef),(21,undef),(22,undef),(23,.bool false),(24,.bool false),(25,undef),(26,undef),(27,.bool false),(2,.int .i64 t1),(3,.bool false)]) (by kernel_rfl) ?_
   refine runs_ret (fn:=Tryd.f27) (v:=.tuple #[.int .i64 t1,.bool false]) Tryd.func27 (by kernel_rfl) ?_
   have hr9:=(Option.some.inj hp8)
   cases hr9
   exact hR _ _ ⟨rfl,hS7⟩
  ·skip
   have hp10:=ite_t hp5 rfl
   refine sx_split 4 (todo':=[.inRegion (opsOf p27_2) [6,7,8,9,10,11,12,13,14,15,16,17,18],.code p27_3]) (us:=[(13,.bool true),(14,.bool true),(15,.int .i64 t1)]) (d:=16) (t:=(decide (t1 ≤ 9999))) (by kernel_rfl) (fun h11 => ?_) (fun h12 => ?_)
   ·skip
    have hp13:=ite_t hp10 h11
    refine sx_run 3 (todo':=[.inRegion (opsOf p27_2) [9,10,11,12,13,14,15,16,17,18],.code p27_3]) (us:=[(17,.bool true),(18,.bool true),(19,.int .i64 t1)]) (by kernel_rfl) ?_
    obtain ⟨t14,hr15,hp16⟩:=bind_some' hp13
    refine r_call1 (c:=p27_2) (i:=9) (d:=(some 20)) (g:=36) (args:=#[.int .i64 t1]) (by kernel_rfl) (by kernel_rfl) (by kernel_rfl) (by kernel_rfl) (strconv_Itoa.ok t1 hS7 hE hr15) ?_
    rintro _ w17 ⟨rfl,hS18⟩
    refine ⟨.string t14,rfl,?_⟩
    refine sx_split 2 (todo':=[.inRegion (opsOf p27_2) [12,13,14,15,16,17,18],.code p27_3]) (us:=[(21,.string a0)]) (d:=22) (t:=(seq t14 a0)) (by kernel_rfl) (fun h19 => ?_) (fun h20 => ?_)
    ·skip
     have hp21:=ite_t hp16 h19
     refine sx_split 4 (todo':=[.inRegion (opsOf p27_2) [16,17,18],.code p27_3]) (us:=[(23,.bool true),(24,.bool true),(25,.int .i64 t1)]) (d:=26) (t:=(decide (t1 ≥ 0))) (by kernel_rfl) (fun h22 => ?_) (fun h23 => ?_)
     ·skip
      have hp24:=ite_t hp21 h22
      refine sx_run 4 (todo':=[.code p27_3]) (us:=[(27,.bool true),(2,.int .i64 t1),(3,.bool true)]) (by kernel_rfl) ?_
      refine runs_ret (fn:=Tryd.f27) (v:=.tuple #[.int .i64 t1,.bool true]) Tryd.func27 (by kernel_rfl) ?_
      have hr25:=(Option.some.inj hp24)
      cases hr25
      exact hR _ _ ⟨rfl,hS18⟩
     ·skip
      have hp26:=ite_f hp21 h23
      refine sx_run 4 (todo':=[.code p27_3]) (us:=[(27,.bool false),(2,.int .i64 t1),(3,.bool false)]) (by kernel_rfl) ?_
      refine runs_ret (fn:=Tryd.f27) (v:=.tuple #[.int .i64 t1,.bool false]) Tryd.func27 (by kernel_rfl) ?_
      have hr27:=(Option.some.inj hp26)
      cases hr27
      exact hR _ _ ⟨rfl,hS18⟩
    ·skip
     have hp28:=ite_f hp16 h20
     refine sx_run 8 (todo':=[.code p27_3]) (us:=[(23,.bool false),(24,.bool false),(25,undef),(26,undef),(27,.bool false),(2,.int .i64 t1),(3,.bool false)]) (by kernel_rfl) ?_
     refine runs_ret (fn:=Tryd.f27) (v:=.tuple #[.int .i64 t1,.bool false]) Tryd.func27 (by kernel_rfl) ?_
     have hr29:=(Option.some.inj hp28)
     cases hr29
     exact hR _ _ ⟨rfl,hS18⟩
   ·skip
    have hp30:=ite_f hp10 h12
    refine sx_run 14 (todo':=[.code p27_3]) (us:=[(17,.bool false),(18,.bool false),(19,undef),(20,undef),(21,undef),(22,undef),(23,.bool false),(24,.bool false),(25,undef),(26,undef),(27,.bool false),(2,.int .i64 t1),(3,.bool false)]) (by kernel_rfl) ?_
    refine runs_ret (fn:=Tryd.f27) (v:=.tuple #[.int .i64 t1,.bool false]) Tryd.func27 (by kernel_rfl) ?_
    have hr31:=(Option.some.inj hp30)
    cases hr31
    exact hR _ _ ⟨rfl,hS7⟩

noncomputable def cd15 (p : List Nat) : Code:=sub (bodyOf Tryd.f15) p
noncomputable abbrev p15_0 : Code:=cd15 [0]
noncomputable abbrev p15_1 : Code:=cd15 [1]
noncomputable abbrev p15_2 : Code:=cd15 [1,0]
noncomputable abbrev p15_3 : Code:=cd15 [1,1]
noncomputable abbrev p15_4 : Code:=cd15 [1,1,0,0]
noncomputable abbrev p15_5 : Code:=cd15 [1,1,0,1]
noncomputable abbrev p15_6 : Code:=cd15 [1,1,1]
noncomputable abbrev p15_7 : Code:=cd15 [1,1,0,1,0,0]
noncomputable abbrev p15_8 : Code:=cd15 [1,1,0,1,0,1]
noncomputable abbrev p15_9 : Code:=cd15 [1,1,1,0]
noncomputable abbrev p15_10 : Code:=cd15 [1,1,1,1]
noncomputable abbrev p15_11 : Code:=cd15 [1,1,1,1,0,0]
noncomputable abbrev p15_12 : Code:=cd15 [1,1,1,1,0,1]
noncomputable abbrev p15_13 : Code:=cd15 [1,1,1,1,1]
noncomputable abbrev p15_14 : Code:=cd15 [1,1,1,1,0,1,0,0]
noncomputable abbrev p15_15 : Code:=cd15 [1,1,1,1,0,1,0,1]
noncomputable abbrev p15_16 : Code:=cd15 [1,1,1,1,1,1]
noncomputable abbrev p15_17 : Code:=cd15 [1,1,1,1,1,1,0]
noncomputable abbrev p15_18 : Code:=cd15 [1,1,1,1,1,1,1]
noncomputable abbrev p15_19 : Code:=cd15 [1,1,1,1,1,0,0,0]
noncomputable abbrev p15_20 : Code:=cd15 [1,1,1,1,1,0,0,1]
noncomputable abbrev p15_21 : Code:=cd15 [1,1,1,1,1,0,0,1,0,0]
noncomputable abbrev p15_22 : Code:=cd15 [1,1,1,1,1,0,0,1,0,1]
noncomputable abbrev p15_23 : Code:=cd15 [1,1,1,1,1,0,0,1,1,0]
noncomputable abbrev p15_24 : Code:=cd15 [1,1,1,1,1,0,0,1,1,1]
noncomputable abbrev p15_25 : Code:=cd15 [1,1,1,1,1,0,0,1,1,1,0,0]
noncomputable abbrev p15_26 : Code:=cd15 [1,1,1,1,1,0,0,1,1,1,0,1]
noncomputable abbrev p15_27 : Code:=cd15 [1,1,1,1,1,0,0,1,1,1,1,0]
noncomputable abbrev p15_28 : Code:=cd15 [1,1,1,1,1,0,0,1,1,1,1,1]
noncomputable abbrev p15_29 : Code:=cd15 [1,1,1,1,1,0,0,1,1,1,1,1,0,0]
noncomputable abbrev p15_30 : Code:=cd15 [1,1,1,1,1,0,0,1,1,1,1,1,0,1]
noncomputable abbrev p15_31 : Code:=cd15 [1,1,1,1,1,0,0,1,1,1,1,1,0,1,0]
noncomputable abbrev p15_32 : Code:=cd15 [1,1,1,1,1,0,0,1,1,1,1,1,0,1,1]
def script_pick.f (a0 : ByteArray) : Option (api_Pick × Bool) :=
  (strings_Split.f a0 (⟨#[58]⟩ : ByteArray) >>= (fun t5 => (if (decide ((t5.length : Int) < 2)) = true then some (((⟨0,0,0⟩ : api_Pick),false)) else (if (decide ((t5.length : Int) > 3)) = true then some (((⟨0,0,0⟩ : api_Pick),false)) else (if 0 ≤ (0 : Int) ∧ (0 : Int) < (t5.length : Int) then (script_number.f (gt t5 (0 : Int)) >>= (fun (t39,t40) => (if (!t40) = true then some (((⟨0,0,0⟩ : api_Pick),false)) else (((if ((t5.length : Int) == 2) = true then (if 0 ≤ (1 : Int) ∧ (1 : Int) < (t5.length : Int) then (if (seq (gt t5 (1 : Int)) (⟨#[115]⟩ : ByteArray)) = true then some (.inr (((⟨t39,1,0⟩ : api_Pick),true))) else (if ((t5.length : Int) == 2) = true then (if 0 ≤ (1 : Int) ∧ (1 : Int) < (t5.length : Int) then (if (seq (gt t5 (1 : Int)) (⟨#[102]⟩ : ByteArray)) = true then some (.inr (((⟨t39,2,0⟩ : api_Pick),true))) else (if ((t5.length : Int) == 3) = true then (if 0 ≤ (1 : Int) ∧ (1 : Int) < (t5.length : Int) then (if (seq (gt t5 (1 : Int)) (⟨#[102]⟩ : ByteArray)) = true then (if 0 ≤ (2 : Int) ∧ (2 : Int) < (t5.length : Int) then (script_number.f (gt t5 (2 : Int)) >>= (fun (t124,t125) => (if t125 = true then (if (decide (t124 > 0)) = true then some (.inr (((⟨t39,2,t124⟩ : api_Pick),true))) else some (.inr (((⟨t39,2,t124⟩ : api_Pick),false)))) else some (.inr (((⟨t39,2,t124⟩ : api_Pick),false)))))) else none) else some (.inl ())) else none) else some (.inl ()))) else none) else (if ((t5.length : Int) == 3) = true then (if 0 ≤ (1 : Int) ∧ (1 : Int) < (t5.length : Int) then (if (seq (gt t5 (1 : Int)) (⟨#[102]⟩ : ByteArray)) = true then (if 0 ≤ (2 : Int) ∧ (2 : Int) < (t5.length : Int) then (script_number.f (gt t5 (2 : Int)) >>= (fun (t177,t178) => (if t178 = true then (if (decide (t177 > 0)) = true then some (.inr (((⟨t39,2,t177⟩ : api_Pick),true))) else some (.inr (((⟨t39,2,t177⟩ : api_Pick),false)))) else some (.inr (((⟨t39,2,t177⟩ : api_Pick),false)))))) else none) else some (.inl ())) else none) else some (.inl ())))) else none) else (if ((t5.length : Int) == 2) = true then (if 0 ≤ (1 : Int) ∧ (1 : Int) < (t5.length : Int) then (if (seq (gt t5 (1 : Int)) (⟨#[102]⟩ : ByteArray)) = true then some (.inr (((⟨t39,2,0⟩ : api_Pick),true))) else (if ((t5.length : Int) == 3) = true then (if 0 ≤ (1 : Int) ∧ (1 : Int) < (t5.length : Int) then (if (seq (gt t5 (1 : Int)) (⟨#[102]⟩ : ByteArray)) = true then (if 0 ≤ (2 : Int) ∧ (2 : Int) < (t5.length : Int) then (script_number.f (gt t5 (2 : Int)) >>= (fun (t249,t250) => (if t250 = true then (if (decide (t249 > 0)) = true then some (.inr (((⟨t39,2,t249⟩ : api_Pick),true))) else some (.inr (((⟨t39,2,t249⟩ : api_Pick),false)))) else some (.inr (((⟨t39,2,t249⟩ : api_Pick),false)))))) else none) else some (.inl ())) else none) else some (.inl ()))) else none) else (if ((t5.length : Int) == 3) = true then (if 0 ≤ (1 : Int) ∧ (1 : Int) < (t5.length : Int) then (if (seq (gt t5 (1 : Int)) (⟨#[102]⟩ : ByteArray)) = true then (if 0 ≤ (2 : Int) ∧ (2 : Int) < (t5.length : Int) then (script_number.f (gt t5 (2 : Int)) >>= (fun (t302,t303) => (if t303 = true then (if (decide (t302 > 0)) = true then some (.inr (((⟨t39,2,t302⟩ : api_Pick),true))) else some (.inr (((⟨t39,2,t302⟩ : api_Pick),false)))) else some (.inr (((⟨t39,2,t302⟩ : api_Pick),false)))))) else none) else some (.inl ())) else none) else some (.inl ())))) : Option (Sum Unit (api_Pick × Bool))) >>= (fun | .inl () => some (((⟨0,0,0⟩ : api_Pick),false)) | .inr e => some e))))) else none)))))
set_option maxHeartbeats 16000000 in
theorem script_pick.ok (a0 : ByteArray) {w0 : World} {Z : Zm} {fs : List XObj} {w : World} (hS0 : St w0 Z (fs) w) (hE : Env Z) {q0 : api_Pick} {q1 : Bool} (hp0 : script_pick.f a0 = some (q0,q1)) :
    Calls Tryd.prog 15 #[.string a0] w (fun e w' => e = .returned (.tuple #[.agg (enc_api_Pick q0).toArray,.bool q1]) ∧ St w0 Z (fs) w'):=by
  refine calls_abs ?_; intro R hR
  unfold script_pick.f at hp0
  refine calls_of_runs (fn:=Tryd.f15) (c:=cd15 []) Tryd.func15 (by kernel_rfl) (al:=[.string a0]) rfl (n:=79) rfl ?_
  refine sx_run 2 (todo':=[.inRegion (opsOf p15_0) [0,1],.code p15_1]) (us:=[]) (by kernel_rfl) ?_
  refine r_alloc (c:=p15_0) (i:=0) (d:=(some 2)) (ty:=0) (z:=.agg (enc_api_Pick (⟨0,0,0⟩ : api_Pick)).toArray) (t:=24) (cs:=enc_api_Pick (⟨0,0,0⟩ : api_Pick)) hS0 (by kernel_rfl) (by kernel_rfl) (by kernel_rfl) (by kernel_rfl) ?_
  intro b1 w2 hS3
  refine sx_run 5 (todo':=[.inRegion (opsOf p15_2) [1,2],.code p15_3]) (us:=[(3,.bool false),(9,.string a0)]) (by kernel_rfl) ?_
  obtain ⟨t5,hr8,hp9⟩:=bind_some' hp0
  refine r_call1 (c:=p15_2) (i:=1) (d:=(some 10)) (g:=26) (args:=#[.string a0,.string (⟨#[58]⟩ : ByteArray)]) (by kernel_rfl) (by kernel_rfl) (by kernel_rfl) (by kernel_rfl) (strings_Split.ok a0 (⟨#[58]⟩ : ByteArray) hS3 hE hr8) ?_
  rintro _ w11 ⟨Q6,Q7,rfl,hS12⟩
  refine ⟨.slice Q6 t5.length Q7,rfl,?_⟩
  refine sx_split 8 (todo':=[.inRegion (opsOf p15_4) [3,4,5,6,7],.code p15_5,.code p15_6]) (us:=[(4,.slice Q6 t5.length Q7),(11,.slice Q6 t5.length Q7),(12,.int .i64 (t5.length : Int))]) (d:=13) (t:=(decide ((t5.length : Int) < 2))) (by kernel_rfl) (fun h13 => ?_) (fun h14 => ?_)
  ·skip
   have hp15:=ite_t hp9 h13
   refine sx_run 10 (todo':=[.inRegion (opsOf p15_7) [1,2],.code p15_8,.code p15_6]) (us:=[(14,.bool true),(15,undef),(16,undef),(17,undef),(18,.bool true),(19,.agg (enc_api_Pick (⟨0,0,0⟩ : api_Pick)).toArray)]) (by kernel_rfl) ?_
   have hS16:=hS12.pick1
   refine r_store (c:=p15_7) (i:=1) (d:=none) (ty:=0) (t:=24) (x:=(.tmp 2)) (y:=(.tmp 19)) (b:=b1) (o:=0) (e:=24) (cs:=enc_api_Pick (⟨0,0,0⟩ : api_Pick)) (v:=.agg (enc_api_Pick (⟨0,0,0⟩ : api_Pick)).toArray) (vs:=enc_api_Pick (⟨0,0,0⟩ : api_Pick)) (cs':=enc_api_Pick (⟨0,0,0⟩ : api_Pick)) hS16 (by kernel_rfl) (by kernel_rfl) (by kernel_rfl) (by kernel_rfl) (by kernel_rfl) (by kernel_rfl) (one_api_Pick _) (Nat.le_of_ble_eq_true (by kernel_rfl)) (by kernel_rfl) ?_
   intro w17 hS18
   refine sx_run 2 (todo':=[.code p15_8,.code p15_6]) (us:=[(3,.bool false)]) (by kernel_rfl) ?_
   have hS19:=hS18.drop
   have hS20:=hS19.drop
   refine runs_ret (fn:=Tryd.f15) (v:=.tuple #[.agg (enc_api_Pick (⟨0,0,0⟩ : api_Pick)).toArray,.bool false]) Tryd.func15 (resl_run (fn:=Tryd.f15) (by kernel_rfl) (.cell (t:=2) (ty:=24) (by kernel_rfl) (loads_agg (hS18.blk 0 rfl) (by kernel_rfl) (by kernel_rfl)) (.tmp (t:=3) (by kernel_rfl) .nil))) ?_
   have hr21:=(Option.some.inj hp15)
   cases hr21
   exact hR _ _ ⟨rfl,hS20⟩
  ·skip
   have hp22:=ite_f hp9 h14
   refine sx_split 4 (todo':=[.inRegion (opsOf p15_4) [7],.code p15_5,.code p15_6]) (us:=[(14,.bool false),(15,.slice Q6 t5.length Q7),(16,.int .i64 (t5.length : Int))]) (d:=17) (t:=(decide ((t5.length : Int) > 3))) (by kernel_rfl) (fun h23 => ?_) (fun h24 => ?_)
   ·skip
    have hp25:=ite_t hp22 h23
    refine sx_run 6 (todo':=[.inRegion (opsOf p15_7) [1,2],.code p15_8,.code p15_6]) (us:=[(18,.bool true),(19,.agg (enc_api_Pick (⟨0,0,0⟩ : api_Pick)).toArray)]) (by kernel_rfl) ?_
    have hS26:=hS12.pick1
    refine r_store (c:=p15_7) (i:=1) (d:=none) (ty:=0) (t:=24) (x:=(.tmp 2)) (y:=(.tmp 19)) (b:=b1) (o:=0) (e:=24) (cs:=enc_api_Pick (⟨0,0,0⟩ : api_Pick)) (v:=.agg (enc_api_Pick (⟨0,0,0⟩ : api_Pick)).toArray) (vs:=enc_api_Pick (⟨0,0,0⟩ : api_Pick)) (cs':=enc_api_Pick (⟨0,0,0⟩ : api_Pick)) hS26 (by kernel_rfl) (by kernel_rfl) (by kernel_rfl) (by kernel_rfl) (by kernel_rfl) (by kernel_rfl) (one_api_Pick _) (Nat.le_of_ble_eq_true (by kernel_rfl)) (by kernel_rfl) ?_
    intro w27 hS28
    refine sx_run 2 (todo':=[.code p15_8,.code p15_6]) (us:=[(3,.bool false)]) (by kernel_rfl) ?_
    have hS29:=hS28.drop
    have hS30:=hS29.drop
    refine runs_ret (fn:=Tryd.f15) (v:=.tuple #[.agg (enc_api_Pick (⟨0,0,0⟩ : api_Pick)).toArray,.bool false]) Tryd.func15 (resl_run (fn:=Tryd.f15) (by kernel_rfl) (.cell (t:=2) (ty:=24) (by kernel_rfl) (loads_agg (hS28.blk 0 rfl) (by kernel_rfl) (by kernel_rfl)) (.tmp (t:=3) (by kernel_rfl) .nil))) ?_
    have hr31:=(Option.some.inj hp25)
    cases hr31
    exact hR _ _ ⟨rfl,hS30⟩
   ·skip
    have hp32:=ite_f hp22 h24
    refine sx_run 7 (todo':=[.inRegion (opsOf p15_9) [1,2,3,4,5,6,7,8],.code p15_10]) (us:=[(18,.bool false),(21,.slice Q6 t5.length Q7)]) (by kernel_rfl) ?_
    obtain ⟨g33,hp34⟩:=ite_some hp32
    obtain ⟨b35,p36,hA37,-⟩:=(hS12.row 0 rfl).at_ len_encS (by omega) g33.1 g33.2
    refine r_indexAddr (c:=p15_9) (i:=1) (d:=(some 22)) (ty:=0) (t:=41) (e:=9) (n:=t5.length) (cp:=Q7) (sz:=1) (kk:=.i64) (x:=(.tmp 21)) (y:=(.const (.int .i64 0))) (b:=b35) (o':=p36) (j:=(0 : Int)) (by kernel_rfl) (by kernel_rfl) (slv (by kernel_rfl) hA37) (by kernel_rfl) (by kernel_rfl) (by kernel_rfl) g33.1 g33.2 ?_
    refine r_load (c:=p15_9) (i:=2) (d:=(some 23)) (ty:=9) (t:=9) (x:=(.tmp 22)) (p:=⟨b35,p36 + (0 : Int).toNat * 1,none⟩) (v:=.string (gt t5 (0 : Int))) (by kernel_rfl) (by kernel_rfl) (by kernel_rfl) (loads_at 0 ((hS12.row 0 rfl).at2 hA37 len_encS (by omega) g33.1 g33.2) (by kernel_rfl) (by kernel_rfl)) ?_
    obtain ⟨⟨t39,t40⟩,hr41,hp42⟩:=bind_some' hp34
    try dsimp only at hp42
    refine r_call1 (c:=p15_9) (i:=3) (d:=(some 24)) (g:=27) (args:=#[.string (gt t5 (0 : Int))]) (by kernel_rfl) (by kernel_rfl) (by kernel_rfl) (by kernel_rfl) (script_number.ok (gt t5 (0 : Int)) hS12 hE hr41) ?_
    rintro _ w43 ⟨rfl,hS44⟩
    refine ⟨.tuple #[.int .i64 t39,.bool t40],rfl,?_⟩
    refine sx_split 11 (todo':=[.inRegion (opsOf p15_11) [],.code p15_12,.code p15_13]) (us:=[(20,.tuple #[.int .i64 t39,.bool t40]),(25,.int .i64 t39),(26,.bool t40),(5,.int .i64 t39),(6,.bool t40),(27,.bool t40)]) (d:=28) (t:=(!t40)) (by kernel_rfl) (fun h45 => ?_) (fun h46 => ?_)
    ·skip
     have hp47:=ite_t hp42 h45
     refine sx_run 5 (todo':=[.inRegion (opsOf p15_14) [1,2],.code p15_15,.code p15_13]) (us:=[(29,.agg (enc_api_Pick (⟨0,0,0⟩ : api_Pick)).toArray)]) (by kernel_rfl) ?_
     have hS48:=hS44.pick1
     refine r_store (c:=p15_14) (i:=1) (d:=none) (ty:=0) (t:=24) (x:=(.tmp 2)) (y:=(.tmp 29)) (b:=b1) (o:=0) (e:=24) (cs:=enc_api_Pick (⟨0,0,0⟩ : api_Pick)) (v:=.agg (enc_api_Pick (⟨0,0,0⟩ : api_Pick)).toArray) (vs:=enc_api_Pick (⟨0,0,0⟩ : api_Pick)) (cs':=enc_api_Pick (⟨0,0,0⟩ : api_Pick)) hS48 (by kernel_rfl) (by kernel_rfl) (by kernel_rfl) (by kernel_rfl) (by kernel_rfl) (by kernel_rfl) (one_api_Pick _) (Nat.le_of_ble_eq_true (by kernel_rfl)) (by kernel_rfl) ?_
     intro w49 hS50
     refine sx_run 2 (todo':=[.code p15_15,.code p15_13]) (us:=[(3,.bool false)]) (by kernel_rfl) ?_
     have hS51:=hS50.drop
     have hS52:=hS51.drop
     refine runs_ret (fn:=Tryd.f15) (v:=.tuple #[.agg (enc_api_Pick (⟨0,0,0⟩ : api_Pick)).toArray,.bool false]) Tryd.func15 (resl_run (fn:=Tryd.f15) (by kernel_rfl) (.cell (t:=2) (ty:=24) (by kernel_rfl) (loads_agg (hS50.blk 0 rfl) (by kernel_rfl) (by kernel_rfl)) (.tmp (t:=3) (by kernel_rfl) .nil))) ?_
     have hr53:=(Option.some.inj hp47)
     cases hr53
     exact hR _ _ ⟨rfl,hS52⟩
    ·skip
     have hp54:=ite_f hp42 h46
     obtain ⟨v55,hv56,hp57⟩:=bind_some' hp54
     have hq60 : ∀ x,Sum.inr x = v55 → x = (q0,q1):=by intro x hx; subst hx; simpa using hp57
     have J61 : ∀ (he63 : Sum.inl () = v55) (l62 : List Value) (w58 : World) (hS59 : St w0 Z (xblk b1 24 (enc_api_Pick (⟨0,0,0⟩ : api_Pick))::fs) w58),Runs Tryd.prog (fx 15) [.code p15_16] (fill (mk 80 [(2,.pointer (some ⟨b1,0,none⟩))]) l62) w58 R:=by
      intro he63 l62 w58 hS59
      subst he63
      try dsimp only at hp57
      refine sx_run 3 (todo':=[.inRegion (opsOf p15_17) [1,2],.code p15_18]) (us:=[(79,.agg (enc_api_Pick (⟨0,0,0⟩ : api_Pick)).toArray)]) (by kernel_rfl) ?_
      refine r_store (c:=p15_17) (i:=1) (d:=none) (ty:=0) (t:=24) (x:=(.tmp 2)) (y:=(.tmp 79)) (b:=b1) (o:=0) (e:=24) (cs:=enc_api_Pick (⟨0,0,0⟩ : api_Pick)) (v:=.agg (enc_api_Pick (⟨0,0,0⟩ : api_Pick)).toArray) (vs:=enc_api_Pick (⟨0,0,0⟩ : api_Pick)) (cs':=enc_api_Pick (⟨0,0,0⟩ : api_Pick)) hS59 (by kernel_rfl) (by kernel_rfl) (by kernel_rfl) (by kernel_rfl) (by kernel_rfl) (by kernel_rfl) (one_api_Pick _) (Nat.le_of_ble_eq_true (by kernel_rfl)) (by kernel_rfl) ?_
      intro w64 hS65
      refine sx_run 2 (todo':=[.code p15_18]) (us:=[(3,.bool false)]) (by kernel_rfl) ?_
      have hS66:=hS65.drop
      refine runs_ret (fn:=Tryd.f15) (v:=.tuple #[.agg (enc_api_Pick (⟨0,0,0⟩ : api_Pick)).toArray,.bool false]) Tryd.func15 (resl_run (fn:=Tryd.f15) (by kernel_rfl) (.cell (t:=2) (ty:=24) (by kernel_rfl) (loads_agg (hS65.blk 0 rfl) (by kernel_rfl) (by kernel_rfl)) (.tmp (t:=3) (by kernel_rfl) .nil))) ?_
      have hr67:=(Option.some.inj hp57)
      cases hr67
      exact hR _ _ ⟨rfl,hS66⟩
     refine sx_split 10 (todo':=[.inRegion (opsOf p15_19) [3,4,5,6,7,8,9],.code p15_20,.inBlock 0,.code p15_16]) (us:=[(31,.slice Q6 t5.length Q7),(32,.int .i64 (t5.length : Int))]) (d:=33) (t:=((t5.length : Int) == 2)) (by kernel_rfl) (fun h68 => ?_) (fun h69 => ?_)
     ·skip
      have hp70:=ite_t hv56 h68
      refine sx_run 2 (todo':=[.inRegion (opsOf p15_19) [5,6,7,8,9],.code p15_20,.inBlock 0,.code p15_16]) (us:=[(34,.bool true),(35,.slice Q6 t5.length Q7)]) (by kernel_rfl) ?_
      obtain ⟨g71,hp72⟩:=ite_some hp70
      obtain ⟨b73,p74,hA75,-⟩:=(hS44.row 0 rfl).at_ len_encS (by omega) g71.1 g71.2
      refine r_indexAddr (c:=p15_19) (i:=5) (d:=(some 36)) (ty:=0) (t:=41) (e:=9) (n:=t5.length) (cp:=Q7) (sz:=1) (kk:=.i64) (x:=(.tmp 35)) (y:=(.const (.int .i64 1))) (b:=b73) (o':=p74) (j:=(1 : Int)) (by kernel_rfl) (by kernel_rfl) (slv (by kernel_rfl) hA75) (by kernel_rfl) (by kernel_rfl) (by kernel_rfl) g71.1 g71.2 ?_
      refine r_load (c:=p15_19) (i:=6) (d:=(some 37)) (ty:=9) (t:=9) (x:=(.tmp 36)) (p:=⟨b73,p74 + (1 : Int).toNat * 1,none⟩) (v:=.string (gt t5 (1 : Int))) (by kernel_rfl) (by kernel_rfl) (by kernel_rfl) (loads_at 0 ((hS44.row 0 rfl).at2 hA75 len_encS (by omega) g71.1 g71.2) (by kernel_rfl) (by kernel_rfl)) ?_
      refine sx_split 1 (todo':=[.inRegion (opsOf p15_19) [8,9],.code p15_20,.inBlock 0,.code p15_16]) (us:=[]) (d:=38) (t:=(seq (gt t5 (1 : Int)) (⟨#[115]⟩ : ByteArray))) (by kernel_rfl) (fun h77 => ?_) (fun h78 => ?_)
      ·skip
       have hp79:=ite_t hp72 h77
       refine sx_run 8 (todo':=[.inRegion (opsOf p15_21) [2,3],.code p15_22,.inBlock 0,.code p15_16]) (us:=[(39,.bool true),(30,.bool true),(40,.int .i64 t39),(41,.agg (enc_api_Pick (⟨t39,1,0⟩ : api_Pick)).toArray)]) (by kernel_rfl) ?_
       have hS80:=hS44.pick1
       refine r_store (c:=p15_21) (i:=2) (d:=none) (ty:=0) (t:=24) (x:=(.tmp 2)) (y:=(.tmp 41)) (b:=b1) (o:=0) (e:=24) (cs:=enc_api_Pick (⟨0,0,0⟩ : api_Pick)) (v:=.agg (enc_api_Pick (⟨t39,1,0⟩ : api_Pick)).toArray) (vs:=enc_api_Pick (⟨t39,1,0⟩ : api_Pick)) (cs':=enc_api_Pick (⟨t39,1,0⟩ : api_Pick)) hS80 (by kernel_rfl) (by kernel_rfl) (by kernel_rfl) (by kernel_rfl) (by kernel_rfl) (by kernel_rfl) (one_api_Pick _) (Nat.le_of_ble_eq_true (by kernel_rfl)) (by kernel_rfl) ?_
       intro w81 hS82
       refine sx_run 2 (todo':=[.code p15_22,.inBlock 0,.code p15_16]) (us:=[(3,.bool true)]) (by kernel_rfl) ?_
       have hS83:=hS82.drop
       have hS84:=hS83.drop
       refine runs_ret (fn:=Tryd.f15) (v:=.tuple #[.agg (enc_api_Pick (⟨t39,1,0⟩ : api_Pick)).toArray,.bool true]) Tryd.func15 (resl_run (fn:=Tryd.f15) (by kernel_rfl) (.cell (t:=2) (ty:=24) (by kernel_rfl) (loads_agg (hS82.blk 0 rfl) (by kernel_rfl) (by kernel_rfl)) (.tmp (t:=3) (by kernel_rfl) .nil))) ?_
       have hr85:=(hq60 _ (Option.some.inj hp79))
       cases hr85
       exact hR _ _ ⟨rfl,hS84⟩
      ·skip
       have hp86:=ite_f hp72 h78
       refine sx_split 9 (todo':=[.inRegion (opsOf p15_23) [3,4,5,6,7,8,9],.code p15_24,.inBlock 0,.code p15_16]) (us:=[(39,.bool false),(30,.bool false),(43,.slice Q6 t5.length Q7),(44,.int .i64 (t5.length : Int))]) (d:=45) (t:=((t5.length : Int) == 2)) (by kernel_rfl) (fun h87 => ?_) (fun h88 => ?_)
       ·skip
        have hp89:=ite_t hp86 h87
        refine sx_run 2 (todo':=[.inRegion (opsOf p15_23) [5,6,7,8,9],.code p15_24,.inBlock 0,.code p15_16]) (us:=[(46,.bool true),(47,.slice Q6 t5.length Q7)]) (by kernel_rfl) ?_
        obtain ⟨g90,hp91⟩:=ite_some hp89
        obtain ⟨b92,p93,hA94,-⟩:=(hS44.row 0 rfl).at_ len_encS (by omega) g90.1 g90.2
        refine r_indexAddr (c:=p15_23) (i:=5) (d:=(some 48)) (ty:=0) (t:=41) (e:=9) (n:=t5.length) (cp:=Q7) (sz:=1) (kk:=.i64) (x:=(.tmp 47)) (y:=(.const (.int .i64 1))) (b:=b92) (o':=p93) (j:=(1 : Int)) (by kernel_rfl) (by kernel_rfl) (slv (by kernel_rfl) hA94) (by kernel_rfl) (by kernel_rfl) (by kernel_rfl) g90.1 g90.2 ?_
        refine r_load (c:=p15_23) (i:=6) (d:=(some 49)) (ty:=9) (t:=9) (x:=(.tmp 48)) (p:=⟨b92,p93 + (1 : Int).toNat * 1,none⟩) (v:=.string (gt t5 (1 : Int))) (by kernel_rfl) (by kernel_rfl) (by kernel_rfl) (loads_at 0 ((hS44.row 0 rfl).at2 hA94 len_encS (by omega) g90.1 g90.2) (by kernel_rfl) (by kernel_rfl)) ?_
        refine sx_split 1 (todo':=[.inRegion (opsOf p15_23) [8,9],.code p15_24,.inBlock 0,.code p15_16]) (us:=[]) (d:=50) (t:=(seq (gt t5 (1 : Int)) (⟨#[102]⟩ : ByteArray))) (by kernel_rfl) (fun h96 => ?_) (fun h97 => ?_)
        ·skip
         have hp98:=ite_t hp91 h96
         refine sx_run 8 (todo':=[.inRegion (opsOf p15_25) [2,3],.code p15_26,.inBlock 0,.code p15_16]) (us:=[(51,.bool true),(42,.bool true),(52,.int .i64 t39),(53,.agg (enc_api_Pick (⟨t39,2,0⟩ : api_Pick)).toArray)]) (by kernel_rfl) ?_
         have hS99:=hS44.pick1
         refine r_store (c:=p15_25) (i:=2) (d:=none) (ty:=0) (t:=24) (x:=(.tmp 2)) (y:=(.tmp 53)) (b:=b1) (o:=0) (e:=24) (cs:=enc_api_Pick (⟨0,0,0⟩ : api_Pick)) (v:=.agg (enc_api_Pick (⟨t39,2,0⟩ : api_Pick)).toArray) (vs:=enc_api_Pick (⟨t39,2,0⟩ : api_Pick)) (cs':=enc_api_Pick (⟨t39,2,0⟩ : api_Pick)) hS99 (by kernel_rfl) (by kernel_rfl) (by kernel_rfl) (by kernel_rfl) (by kernel_rfl) (by kernel_rfl) (one_api_Pick _) (Nat.le_of_ble_eq_true (by kernel_rfl)) (by kernel_rfl) ?_
         intro w100 hS101
         refine sx_run 2 (todo':=[.code p15_26,.inBlock 0,.code p15_16]) (us:=[(3,.bool true)]) (by kernel_rfl) ?_
         have hS102:=hS101.drop
         have hS103:=hS102.drop
         refine runs_ret (fn:=Tryd.f15) (v:=.tuple #[.agg (enc_api_Pick (⟨t39,2,0⟩ : api_Pick)).toArray,.bool true]) Tryd.func15 (resl_run (fn:=Tryd.f15) (by kernel_rfl) (.cell (t:=2) (ty:=24) (by kernel_rfl) (loads_agg (hS101.blk 0 rfl) (by kernel_rfl) (by kernel_rfl)) (.tmp (t:=3) (by kernel_rfl) .nil))) ?_
         have hr104:=(hq60 _ (Option.some.inj hp98))
         cases hr104
         exact hR _ _ ⟨rfl,hS103⟩
        ·skip
         have hp105:=ite_f hp91 h97
         refine sx_split 9 (todo':=[.inRegion (opsOf p15_27) [3,4,5,6,7,8,9],.code p15_28,.inBlock 0,.code p15_16]) (us:=[(51,.bool false),(42,.bool false),(55,.slice Q6 t5.length Q7),(56,.int .i64 (t5.length : Int))]) (d:=57) (t:=((t5.length : Int) == 3)) (by kernel_rfl) (fun h106 => ?_) (fun h107 => ?_)
         ·skip
          have hp108:=ite_t hp105 h106
          refine sx_run 2 (todo':=[.inRegion (opsOf p15_27) [5,6,7,8,9],.code p15_28,.inBlock 0,.code p15_16]) (us:=[(58,.bool true),(59,.slice Q6 t5.length Q7)]) (by kernel_rfl) ?_
          obtain ⟨g109,hp110⟩:=ite_some hp108
          obtain ⟨b111,p112,hA113,-⟩:=(hS44.row 0 rfl).at_ len_encS (by omega) g109.1 g109.2
          refine r_indexAddr (c:=p15_27) (i:=5) (d:=(some 60)) (ty:=0) (t:=41) (e:=9) (n:=t5.length) (cp:=Q7) (sz:=1) (kk:=.i64) (x:=(.tmp 59)) (y:=(.const (.int .i64 1))) (b:=b111) (o':=p112) (j:=(1 : Int)) (by kernel_rfl) (by kernel_rfl) (slv (by kernel_rfl) hA113) (by kernel_rfl) (by kernel_rfl) (by kernel_rfl) g109.1 g109.2 ?_
          refine r_load (c:=p15_27) (i:=6) (d:=(some 61)) (ty:=9) (t:=9) (x:=(.tmp 60)) (p:=⟨b111,p112 + (1 : Int).toNat * 1,none⟩) (v:=.string (gt t5 (1 : Int))) (by kernel_rfl) (by kernel_rfl) (by kernel_rfl) (loads_at 0 ((hS44.row 0 rfl).at2 hA113 len_encS (by omega) g109.1 g109.2) (by kernel_rfl) (by kernel_rfl)) ?_
          refine sx_split 1 (todo':=[.inRegion (opsOf p15_27) [8,9],.code p15_28,.inBlock 0,.code p15_16]) (us:=[]) (d:=62) (t:=(seq (gt t5 (1 : Int)) (⟨#[102]⟩ : ByteArray))) (by kernel_rfl) (fun h115 => ?_) (fun h116 => ?_)
          ·skip
           have hp117:=ite_t hp110 h115
           refine sx_run 7 (todo':=[.inRegion (opsOf p15_29) [1,2,3,4,5,6,7,8],.code p15_30,.inBlock 0,.code p15_16]) (us:=[(63,.bool true),(54,.bool true),(65,.slice Q6 t5.length Q7)]) (by kernel_rfl) ?_
           obtain ⟨g118,hp119⟩:=ite_some hp117
           obtain ⟨b120,p121,hA122,-⟩:=(hS44.row 0 rfl).at_ len_encS (by omega) g118.1 g118.2
           refine r_indexAddr (c:=p15_29) (i:=1) (d:=(some 66)) (ty:=0) (t:=41) (e:=9) (n:=t5.length) (cp:=Q7) (sz:=1) (kk:=.i64) (x:=(.tmp 65)) (y:=(.const (.int .i64 2))) (b:=b120) (o':=p121) (j:=(2 : Int)) (by kernel_rfl) (by kernel_rfl) (slv (by kernel_rfl) hA122) (by kernel_rfl) (by kernel_rfl) (by kernel_rfl) g118.1 g118.2 ?_
           refine r_load (c:=p15_29) (i:=2) (d:=(some 67)) (ty:=9) (t:=9) (x:=(.tmp 66)) (p:=⟨b120,p121 + (2 : Int).toNat * 1,none⟩) (v:=.string (gt t5 (2 : Int))) (by kernel_rfl) (by kernel_rfl) (by kernel_rfl) (loads_at 0 ((hS44.row 0 rfl).at2 hA122 len_encS (by omega) g118.1 g118.2) (by kernel_rfl) (by kernel_rfl)) ?_
           obtain ⟨⟨t124,t125⟩,hr126,hp127⟩:=bind_some' hp119
           try dsimp only at hp127
           refine r_call1 (c:=p15_29) (i:=3) (d:=(some 68)) (g:=27) (args:=#[.string (gt t5 (2 : Int))]) (by kernel_rfl) (by kernel_rfl) (by kernel_rfl) (by kernel_rfl) (script_number.ok (gt t5 (2 : Int)) hS44 hE hr126) ?_
           rintro _ w128 ⟨rfl,hS129⟩
           refine ⟨.tuple #[.int .i64 t124,.bool t125],rfl,?_⟩
           refine sx_run 13 (todo':=[.inRegion (opsOf p15_31) [5,6,7,8,9],.code p15_32,.inBlock 0,.code p15_16]) (us:=[(64,.tuple #[.int .i64 t124,.bool t125]),(69,.int .i64 t124),(70,.bool t125),(7,.int .i64 t124),(8,.bool t125),(71,.int .i64 t39),(72,.int .i64 t124),(73,.agg (enc_api_Pick (⟨t39,2,t124⟩ : api_Pick)).toArray),(74,.bool t125),(75,.bool t125)]) (by kernel_rfl) ?_
           cases t125
           ·skip
            have hp130:=ite_f hp127 rfl
            refine sx_run 3 (todo':=[.inRegion (opsOf p15_31) [8,9],.code p15_32,.inBlock 0,.code p15_16]) (us:=[(76,undef),(77,undef),(78,.bool false)]) (by kernel_rfl) ?_
            have hS131:=hS129.pick1
            refine r_store (c:=p15_31) (i:=8) (d:=none) (ty:=0) (t:=24) (x:=(.tmp 2)) (y:=(.tmp 73)) (b:=b1) (o:=0) (e:=24) (cs:=enc_api_Pick (⟨0,0,0⟩ : api_Pick)) (v:=.agg (enc_api_Pick (⟨t39,2,t124⟩ : api_Pick)).toArray) (vs:=enc_api_Pick (⟨t39,2,t124⟩ : api_Pick)) (cs':=enc_api_Pick (⟨t39,2,t124⟩ : api_Pick)) hS131 (by kernel_rfl) (by kernel_rfl) (by kernel_rfl) (by kernel_rfl) (by kernel_rfl) (by kernel_rfl) (one_api_Pick _) (Nat.le_of_ble_eq_true (by kernel_rfl)) (by kernel_rfl) ?_
            intro w132 hS133
            refine sx_run 2 (todo':=[.code p15_32,.inBlock 0,.code p15_16]) (us:=[(3,.bool false)]) (by kernel_rfl) ?_
            refine r_isret (c:=p15_32) (by kernel_rfl) ?_
            have hS134:=hS133.drop
            have hS135:=hS134.drop
            refine runs_ret (fn:=Tryd.f15) (v:=.tuple #[.agg (enc_api_Pick (⟨t39,2,t124⟩ : api_Pick)).toArray,.bool false]) Tryd.func15 (resl_run (fn:=Tryd.f15) (by kernel_rfl) (.cell (t:=2) (ty:=24) (by kernel_rfl) (loads_agg (hS133.blk 0 rfl) (by kernel_rfl) (by kernel_rfl)) (.tmp (t:=3) (by kernel_rfl) .nil))) ?_
            have hr136:=(hq60 _ (Option.some.inj hp130))
            cases hr136
            exact hR _ _ ⟨rfl,hS135⟩
           ·skip
            have hp137:=ite_t hp127 rfl
            refine sx_split 2 (todo':=[.inRegion (opsOf p15_31) [7,8,9],.code p15_32,.inBlock 0,.code p15_16]) (us:=[(76,.int .i64 t124)]) (d:=77) (t:=(decide (t124 > 0))) (by kernel_rfl) (fun h138 => ?_) (fun h139 => ?_)
            ·skip
             have hp140:=ite_t hp137 h138
             refine sx_run 1 (todo':=[.inRegion (opsOf p15_31) [8,9],.code p15_32,.inBlock 0,.code p15_16]) (us:=[(78,.bool true)]) (by kernel_rfl) ?_
             have hS141:=hS129.pick1
             refine r_store (c:=p15_31) (i:=8) (d:=none) (ty:=0) (t:=24) (x:=(.tmp 2)) (y:=(.tmp 73)) (b:=b1) (o:=0) (e:=24) (cs:=enc_api_Pick (⟨0,0,0⟩ : api_Pick)) (v:=.agg (enc_api_Pick (⟨t39,2,t124⟩ : api_Pick)).toArray) (vs:=enc_api_Pick (⟨t39,2,t124⟩ : api_Pick)) (cs':=enc_api_Pick (⟨t39,2,t124⟩ : api_Pick)) hS141 (by kernel_rfl) (by kernel_rfl) (by kernel_rfl) (by kernel_rfl) (by kernel_rfl) (by kernel_rfl) (one_api_Pick _) (Nat.le_of_ble_eq_true (by kernel_rfl)) (by kernel_rfl) ?_
             intro w142 hS143
             refine sx_run 2 (todo':=[.code p15_32,.inBlock 0,.code p15_16]) (us:=[(3,.bool true)]) (by kernel_rfl) ?_
             refine r_isret (c:=p15_32) (by kernel_rfl) ?_
             have hS144:=hS143.drop
             have hS145:=hS144.drop
             refine runs_ret (fn:=Tryd.f15) (v:=.tuple #[.agg (enc_api_Pick (⟨t39,2,t124⟩ : api_Pick)).toArray,.bool true]) Tryd.func15 (resl_run (fn:=Tryd.f15) (by kernel_rfl) (.cell (t:=2) (ty:=24) (by kernel_rfl) (loads_agg (hS143.blk 0 rfl) (by kernel_rfl) (by kernel_rfl)) (.tmp (t:=3) (by kernel_rfl) .nil))) ?_
             have hr146:=(hq60 _ (Option.some.inj hp140))
             cases hr146
             exact hR _ _ ⟨rfl,hS145⟩
            ·skip
             have hp147:=ite_f hp137 h139
             refine sx_run 1 (todo':=[.inRegion (opsOf p15_31) [8,9],.code p15_32,.inBlock 0,.code p15_16]) (us:=[(78,.bool false)]) (by kernel_rfl) ?_
             have hS148:=hS129.pick1
             refine r_store (c:=p15_31) (i:=8) (d:=none) (ty:=0) (t:=24) (x:=(.tmp 2)) (y:=(.tmp 73)) (b:=b1) (o:=0) (e:=24) (cs:=enc_api_Pick (⟨0,0,0⟩ : api_Pick)) (v:=.agg (enc_api_Pick (⟨t39,2,t124⟩ : api_Pick)).toArray) (vs:=enc_api_Pick (⟨t39,2,t124⟩ : api_Pick)) (cs':=enc_api_Pick (⟨t39,2,t124⟩ : api_Pick)) hS148 (by kernel_rfl) (by kernel_rfl) (by kernel_rfl) (by kernel_rfl) (by kernel_rfl) (by kernel_rfl) (one_api_Pick _) (Nat.le_of_ble_eq_true (by kernel_rfl)) (by kernel_rfl) ?_
             intro w149 hS150
             refine sx_run 2 (todo':=[.code p15_32,.inBlock 0,.code p15_16]) (us:=[(3,.bool false)]) (by kernel_rfl) ?_
             refine r_isret (c:=p15_32) (by kernel_rfl) ?_
             have hS151:=hS150.drop
             have hS152:=hS151.drop
             refine runs_ret (fn:=Tryd.f15) (v:=.tuple #[.agg (enc_api_Pick (⟨t39,2,t124⟩ : api_Pick)).toArray,.bool false]) Tryd.func15 (resl_run (fn:=Tryd.f15) (by kernel_rfl) (.cell (t:=2) (ty:=24) (by kernel_rfl) (loads_agg (hS150.blk 0 rfl) (by kernel_rfl) (by kernel_rfl)) (.tmp (t:=3) (by kernel_rfl) .nil))) ?_
             have hr153:=(hq60 _ (Option.some.inj hp147))
             cases hr153
             exact hR _ _ ⟨rfl,hS152⟩
          ·skip
           have hp154:=ite_f hp110 h116
           refine sx_run 6 (todo':=[.code p15_16]) (us:=[(63,.bool false),(54,.bool false)]) (by kernel_rfl) ?_
           have hS155:=hS44.drop
           refine Runs.fill (m:=(mk 80 [(2,.pointer (some ⟨b1,0,none⟩))])) (by kernel_rfl) ?_
           exact J61 (Option.some.inj hp154) _ _ hS155
         ·skip
          have hp156:=ite_f hp105 h107
          refine sx_run 11 (todo':=[.code p15_16]) (us:=[(58,.bool false),(59,undef),(60,undef),(61,undef),(62,undef),(63,.bool false),(54,.bool false)]) (by kernel_rfl) ?_
          have hS157:=hS44.drop
          refine Runs.fill (m:=(mk 80 [(2,.pointer (some ⟨b1,0,none⟩))])) (by kernel_rfl) ?_
          exact J61 (Option.some.inj hp156) _ _ hS157
       ·skip
        have hp158:=ite_f hp86 h88
        refine sx_split 14 (todo':=[.inRegion (opsOf p15_27) [3,4,5,6,7,8,9],.code p15_28,.inBlock 0,.code p15_16]) (us:=[(46,.bool false),(47,undef),(48,undef),(49,undef),(50,undef),(51,.bool false),(42,.bool false),(55,.slice Q6 t5.length Q7),(56,.int .i64 (t5.length : Int))]) (d:=57) (t:=((t5.length : Int) == 3)) (by kernel_rfl) (fun h159 => ?_) (fun h160 => ?_)
        ·skip
         have hp161:=ite_t hp158 h159
         refine sx_run 2 (todo':=[.inRegion (opsOf p15_27) [5,6,7,8,9],.code p15_28,.inBlock 0,.code p15_16]) (us:=[(58,.bool true),(59,.slice Q6 t5.length Q7)]) (by kernel_rfl) ?_
         obtain ⟨g162,hp163⟩:=ite_some hp161
         obtain ⟨b164,p165,hA166,-⟩:=(hS44.row 0 rfl).at_ len_encS (by omega) g162.1 g162.2
         refine r_indexAddr (c:=p15_27) (i:=5) (d:=(some 60)) (ty:=0) (t:=41) (e:=9) (n:=t5.length) (cp:=Q7) (sz:=1) (kk:=.i64) (x:=(.tmp 59)) (y:=(.const (.int .i64 1))) (b:=b164) (o':=p165) (j:=(1 : Int)) (by kernel_rfl) (by kernel_rfl) (slv (by kernel_rfl) hA166) (by kernel_rfl) (by kernel_rfl) (by kernel_rfl) g162.1 g162.2 ?_
         refine r_load (c:=p15_27) (i:=6) (d:=(some 61)) (ty:=9) (t:=9) (x:=(.tmp 60)) (p:=⟨b164,p165 + (1 : Int).toNat * 1,none⟩) (v:=.string (gt t5 (1 : Int))) (by kernel_rfl) (by kernel_rfl) (by kernel_rfl) (loads_at 0 ((hS44.row 0 rfl).at2 hA166 len_encS (by omega) g162.1 g162.2) (by kernel_rfl) (by kernel_rfl)) ?_
         refine sx_split 1 (todo':=[.inRegion (opsOf p15_27) [8,9],.code p15_28,.inBlock 0,.code p15_16]) (us:=[]) (d:=62) (t:=(seq (gt t5 (1 : Int)) (⟨#[102]⟩ : ByteArray))) (by kernel_rfl) (fun h168 => ?_) (fun h169 => ?_)
         ·skip
          have hp170:=ite_t hp163 h168
          refine sx_run 7 (todo':=[.inRegion (opsOf p15_29) [1,2,3,4,5,6,7,8],.code p15_30,.inBlock 0,.code p15_16]) (us:=[(63,.bool true),(54,.bool true),(65,.slice Q6 t5.length Q7)]) (by kernel_rfl) ?_
          obtain ⟨g171,hp172⟩:=ite_some hp170
          obtain ⟨b173,p174,hA175,-⟩:=(hS44.row 0 rfl).at_ len_encS (by omega) g171.1 g171.2
          refine r_indexAddr (c:=p15_29) (i:=1) (d:=(some 66)) (ty:=0) (t:=41) (e:=9) (n:=t5.length) (cp:=Q7) (sz:=1) (kk:=.i64) (x:=(.tmp 65)) (y:=(.const (.int .i64 2))) (b:=b173) (o':=p174) (j:=(2 : Int)) (by kernel_rfl) (by kernel_rfl) (slv (by kernel_rfl) hA175) (by kernel_rfl) (by kernel_rfl) (by kernel_rfl) g171.1 g171.2 ?_
          refine r_load (c:=p15_29) (i:=2) (d:=(some 67)) (ty:=9) (t:=9) (x:=(.tmp 66)) (p:=⟨b173,p174 + (2 : Int).toNat * 1,none⟩) (v:=.string (gt t5 (2 : Int))) (by kernel_rfl) (by kernel_rfl) (by kernel_rfl) (loads_at 0 ((hS44.row 0 rfl).at2 hA175 len_encS (by omega) g171.1 g171.2) (by kernel_rfl) (by kernel_rfl)) ?_
          obtain ⟨⟨t177,t178⟩,hr179,hp180⟩:=bind_some' hp172
          try dsimp only at hp180
          refine r_call1 (c:=p15_29) (i:=3) (d:=(some 68)) (g:=27) (args:=#[.string (gt t5 (2 : Int))]) (by kernel_rfl) (by kernel_rfl) (by kernel_rfl) (by kernel_rfl) (script_number.ok (gt t5 (2 : Int)) hS44 hE hr179) ?_
          rintro _ w181 ⟨rfl,hS182⟩
          refine ⟨.tuple #[.int .i64 t177,.bool t178],rfl,?_⟩
          refine sx_run 13 (todo':=[.inRegion (opsOf p15_31) [5,6,7,8,9],.code p15_32,.inBlock 0,.code p15_16]) (us:=[(64,.tuple #[.int .i64 t177,.bool t178]),(69,.int .i64 t177),(70,.bool t178),(7,.int .i64 t177),(8,.bool t178),(71,.int .i64 t39),(72,.int .i64 t177),(73,.agg (enc_api_Pick (⟨t39,2,t177⟩ : api_Pick)).toArray),(74,.bool t178),(75,.bool t178)]) (by kernel_rfl) ?_
          cases t178
          ·skip
           have hp183:=ite_f hp180 rfl
           refine sx_run 3 (todo':=[.inRegion (opsOf p15_31) [8,9],.code p15_32,.inBlock 0,.code p15_16]) (us:=[(76,undef),(77,undef),(78,.bool false)]) (by kernel_rfl) ?_
           have hS184:=hS182.pick1
           refine r_store (c:=p15_31) (i:=8) (d:=none) (ty:=0) (t:=24) (x:=(.tmp 2)) (y:=(.tmp 73)) (b:=b1) (o:=0) (e:=24) (cs:=enc_api_Pick (⟨0,0,0⟩ : api_Pick)) (v:=.agg (enc_api_Pick (⟨t39,2,t177⟩ : api_Pick)).toArray) (vs:=enc_api_Pick (⟨t39,2,t177⟩ : api_Pick)) (cs':=enc_api_Pick (⟨t39,2,t177⟩ : api_Pick)) hS184 (by kernel_rfl) (by kernel_rfl) (by kernel_rfl) (by kernel_rfl) (by kernel_rfl) (by kernel_rfl) (one_api_Pick _) (Nat.le_of_ble_eq_true (by kernel_rfl)) (by kernel_rfl) ?_
           intro w185 hS186
           refine sx_run 2 (todo':=[.code p15_32,.inBlock 0,.code p15_16]) (us:=[(3,.bool false)]) (by kernel_rfl) ?_
           refine r_isret (c:=p15_32) (by kernel_rfl) ?_
           have hS187:=hS186.drop
           have hS188:=hS187.drop
           refine runs_ret (fn:=Tryd.f15) (v:=.tuple #[.agg (enc_api_Pick (⟨t39,2,t177⟩ : api_Pick)).toArray,.bool false]) Tryd.func15 (resl_run (fn:=Tryd.f15) (by kernel_rfl) (.cell (t:=2) (ty:=24) (by kernel_rfl) (loads_agg (hS186.blk 0 rfl) (by kernel_rfl) (by kernel_rfl)) (.tmp (t:=3) (by kernel_rfl) .nil))) ?_
           have hr189:=(hq60 _ (Option.some.inj hp183))
           cases hr189
           exact hR _ _ ⟨rfl,hS188⟩
          ·skip
           have hp190:=ite_t hp180 rfl
           refine sx_split 2 (todo':=[.inRegion (opsOf p15_31) [7,8,9],.code p15_32,.inBlock 0,.code p15_16]) (us:=[(76,.int .i64 t177)]) (d:=77) (t:=(decide (t177 > 0))) (by kernel_rfl) (fun h191 => ?_) (fun h192 => ?_)
           ·skip
            have hp193:=ite_t hp190 h191
            refine sx_run 1 (todo':=[.inRegion (opsOf p15_31) [8,9],.code p15_32,.inBlock 0,.code p15_16]) (us:=[(78,.bool true)]) (by kernel_rfl) ?_
            have hS194:=hS182.pick1
            refine r_store (c:=p15_31) (i:=8) (d:=none) (ty:=0) (t:=24) (x:=(.tmp 2)) (y:=(.tmp 73)) (b:=b1) (o:=0) (e:=24) (cs:=enc_api_Pick (⟨0,0,0⟩ : api_Pick)) (v:=.agg (enc_api_Pick (⟨t39,2,t177⟩ : api_Pick)).toArray) (vs:=enc_api_Pick (⟨t39,2,t177⟩ : api_Pick)) (cs':=enc_api_Pick (⟨t39,2,t177⟩ : api_Pick)) hS194 (by kernel_rfl) (by kernel_rfl) (by kernel_rfl) (by kernel_rfl) (by kernel_rfl) (by kernel_rfl) (one_api_Pick _) (Nat.le_of_ble_eq_true (by kernel_rfl)) (by kernel_rfl) ?_
            intro w195 hS196
            refine sx_run 2 (todo':=[.code p15_32,.inBlock 0,.code p15_16]) (us:=[(3,.bool true)]) (by kernel_rfl) ?_
            refine r_isret (c:=p15_32) (by kernel_rfl) ?_
            have hS197:=hS196.drop
            have hS198:=hS197.drop
            refine runs_ret (fn:=Tryd.f15) (v:=.tuple #[.agg (enc_api_Pick (⟨t39,2,t177⟩ : api_Pick)).toArray,.bool true]) Tryd.func15 (resl_run (fn:=Tryd.f15) (by kernel_rfl) (.cell (t:=2) (ty:=24) (by kernel_rfl) (loads_agg (hS196.blk 0 rfl) (by kernel_rfl) (by kernel_rfl)) (.tmp (t:=3) (by kernel_rfl) .nil))) ?_
            have hr199:=(hq60 _ (Option.some.inj hp193))
            cases hr199
            exact hR _ _ ⟨rfl,hS198⟩
           ·skip
            have hp200:=ite_f hp190 h192
            refine sx_run 1 (todo':=[.inRegion (opsOf p15_31) [8,9],.code p15_32,.inBlock 0,.code p15_16]) (us:=[(78,.bool false)]) (by kernel_rfl) ?_
            have hS201:=hS182.pick1
            refine r_store (c:=p15_31) (i:=8) (d:=none) (ty:=0) (t:=24) (x:=(.tmp 2)) (y:=(.tmp 73)) (b:=b1) (o:=0) (e:=24) (cs:=enc_api_Pick (⟨0,0,0⟩ : api_Pick)) (v:=.agg (enc_api_Pick (⟨t39,2,t177⟩ : api_Pick)).toArray) (vs:=enc_api_Pick (⟨t39,2,t177⟩ : api_Pick)) (cs':=enc_api_Pick (⟨t39,2,t177⟩ : api_Pick)) hS201 (by kernel_rfl) (by kernel_rfl) (by kernel_rfl) (by kernel_rfl) (by kernel_rfl) (by kernel_rfl) (one_api_Pick _) (Nat.le_of_ble_eq_true (by kernel_rfl)) (by kernel_rfl) ?_
            intro w202 hS203
            refine sx_run 2 (todo':=[.code p15_32,.inBlock 0,.code p15_16]) (us:=[(3,.bool false)]) (by kernel_rfl) ?_
            refine r_isret (c:=p15_32) (by kernel_rfl) ?_
            have hS204:=hS203.drop
            have hS205:=hS204.drop
            refine runs_ret (fn:=Tryd.f15) (v:=.tuple #[.agg (enc_api_Pick (⟨t39,2,t177⟩ : api_Pick)).toArray,.bool false]) Tryd.func15 (resl_run (fn:=Tryd.f15) (by kernel_rfl) (.cell (t:=2) (ty:=24) (by kernel_rfl) (loads_agg (hS203.blk 0 rfl) (by kernel_rfl) (by kernel_rfl)) (.tmp (t:=3) (by kernel_rfl) .nil))) ?_
            have hr206:=(hq60 _ (Option.some.inj hp200))
            cases hr206
            exact hR _ _ ⟨rfl,hS205⟩
         ·skip
          have hp207:=ite_f hp163 h169
          refine sx_run 6 (todo':=[.code p15_16]) (us:=[(63,.bool false),(54,.bool false)]) (by kernel_rfl) ?_
          have hS208:=hS44.drop
          refine Runs.fill (m:=(mk 80 [(2,.pointer (some ⟨b1,0,none⟩))])) (by kernel_rfl) ?_
          exact J61 (Option.some.inj hp207) _ _ hS208
        ·skip
         have hp209:=ite_f hp158 h160
         refine sx_run 11 (todo':=[.code p15_16]) (us:=[(58,.bool false),(59,undef),(60,undef),(61,undef),(62,undef),(63,.bool false),(54,.bool false)]) (by kernel_rfl) ?_
         have hS210:=hS44.drop
         refine Runs.fill (m:=(mk 80 [(2,.pointer (some ⟨b1,0,none⟩))])) (by kernel_rfl) ?_
         exact J61 (Option.some.inj hp209) _ _ hS210
     ·skip
      have hp211:=ite_f hv56 h69
      refine sx_split 14 (todo':=[.inRegion (opsOf p15_23) [3,4,5,6,7,8,9],.code p15_24,.inBlock 0,.code p15_16]) (us:=[(34,.bool false),(35,undef),(36,undef),(37,undef),(38,undef),(39,.bool false),(30,.bool false),(43,.slice Q6 t5.length Q7),(44,.int .i64 (t5.length : Int))]) (d:=45) (t:=((t5.length : Int) == 2)) (by kernel_rfl) (fun h212 => ?_) (fun h213 => ?_)
      ·skip
       have hp214:=ite_t hp211 h212
       refine sx_run 2 (todo':=[.inRegion (opsOf p15_23) [5,6,7,8,9],.code p15_24,.inBlock 0,.code p15_16]) (us:=[(46,.bool true),(47,.slice Q6 t5.length Q7)]) (by kernel_rfl) ?_
       obtain ⟨g215,hp216⟩:=ite_some hp214
       obtain ⟨b217,p218,hA219,-⟩:=(hS44.row 0 rfl).at_ len_encS (by omega) g215.1 g215.2
       refine r_indexAddr (c:=p15_23) (i:=5) (d:=(some 48)) (ty:=0) (t:=41) (e:=9) (n:=t5.length) (cp:=Q7) (sz:=1) (kk:=.i64) (x:=(.tmp 47)) (y:=(.const (.int .i64 1))) (b:=b217) (o':=p218) (j:=(1 : Int)) (by kernel_rfl) (by kernel_rfl) (slv (by kernel_rfl) hA219) (by kernel_rfl) (by kernel_rfl) (by kernel_rfl) g215.1 g215.2 ?_
       refine r_load (c:=p15_23) (i:=6) (d:=(some 49)) (ty:=9) (t:=9) (x:=(.tmp 48)) (p:=⟨b217,p218 + (1 : Int).toNat * 1,none⟩) (v:=.string (gt t5 (1 : Int))) (by kernel_rfl) (by kernel_rfl) (by kernel_rfl) (loads_at 0 ((hS44.row 0 rfl).at2 hA219 len_encS (by omega) g215.1 g215.2) (by kernel_rfl) (by kernel_rfl)) ?_
       refine sx_split 1 (todo':=[.inRegion (opsOf p15_23) [8,9],.code p15_24,.inBlock 0,.code p15_16]) (us:=[]) (d:=50) (t:=(seq (gt t5 (1 : Int)) (⟨#[102]⟩ : ByteArray))) (by kernel_rfl) (fun h221 => ?_) (fun h222 => ?_)
       ·skip
        have hp223:=ite_t hp216 h221
        refine sx_run 8 (todo':=[.inRegion (opsOf p15_25) [2,3],.code p15_26,.inBlock 0,.code p15_16]) (us:=[(51,.bool true),(42,.bool true),(52,.int .i64 t39),(53,.agg (enc_api_Pick (⟨t39,2,0⟩ : api_Pick)).toArray)]) (by kernel_rfl) ?_
        have hS224:=hS44.pick1
        refine r_store (c:=p15_25) (i:=2) (d:=none) (ty:=0) (t:=24) (x:=(.tmp 2)) (y:=(.tmp 53)) (b:=b1) (o:=0) (e:=24) (cs:=enc_api_Pick (⟨0,0,0⟩ : api_Pick)) (v:=.agg (enc_api_Pick (⟨t39,2,0⟩ : api_Pick)).toArray) (vs:=enc_api_Pick (⟨t39,2,0⟩ : api_Pick)) (cs':=enc_api_Pick (⟨t39,2,0⟩ : api_Pick)) hS224 (by kernel_rfl) (by kernel_rfl) (by kernel_rfl) (by kernel_rfl) (by kernel_rfl) (by kernel_rfl) (one_api_Pick _) (Nat.le_of_ble_eq_true (by kernel_rfl)) (by kernel_rfl) ?_
        intro w225 hS226
        refine sx_run 2 (todo':=[.code p15_26,.inBlock 0,.code p15_16]) (us:=[(3,.bool true)]) (by kernel_rfl) ?_
        have hS227:=hS226.drop
        have hS228:=hS227.drop
        refine runs_ret (fn:=Tryd.f15) (v:=.tuple #[.agg (enc_api_Pick (⟨t39,2,0⟩ : api_Pick)).toArray,.bool true]) Tryd.func15 (resl_run (fn:=Tryd.f15) (by kernel_rfl) (.cell (t:=2) (ty:=24) (by kernel_rfl) (loads_agg (hS226.blk 0 rfl) (by kernel_rfl) (by kernel_rfl)) (.tmp (t:=3) (by kernel_rfl) .nil))) ?_
        have hr229:=(hq60 _ (Option.some.inj hp223))
        cases hr229
        exact hR _ _ ⟨rfl,hS228⟩
       ·skip
        have hp230:=ite_f hp216 h222
        refine sx_split 9 (todo':=[.inRegion (opsOf p15_27) [3,4,5,6,7,8,9],.code p15_28,.inBlock 0,.code p15_16]) (us:=[(51,.bool false),(42,.bool false),(55,.slice Q6 t5.length Q7),(56,.int .i64 (t5.length : Int))]) (d:=57) (t:=((t5.length : Int) == 3)) (by kernel_rfl) (fun h231 => ?_) (fun h232 => ?_)
        ·skip
         have hp233:=ite_t hp230 h231
         refine sx_run 2 (todo':=[.inRegion (opsOf p15_27) [5,6,7,8,9],.code p15_28,.inBlock 0,.code p15_16]) (us:=[(58,.bool true),(59,.slice Q6 t5.length Q7)]) (by kernel_rfl) ?_
         obtain ⟨g234,hp235⟩:=ite_some hp233
         obtain ⟨b236,p237,hA238,-⟩:=(hS44.row 0 rfl).at_ len_encS (by omega) g234.1 g234.2
         refine r_indexAddr (c:=p15_27) (i:=5) (d:=(some 60)) (ty:=0) (t:=41) (e:=9) (n:=t5.length) (cp:=Q7) (sz:=1) (kk:=.i64) (x:=(.tmp 59)) (y:=(.const (.int .i64 1))) (b:=b236) (o':=p237) (j:=(1 : Int)) (by kernel_rfl) (by kernel_rfl) (slv (by kernel_rfl) hA238) (by kernel_rfl) (by kernel_rfl) (by kernel_rfl) g234.1 g234.2 ?_
         refine r_load (c:=p15_27) (i:=6) (d:=(some 61)) (ty:=9) (t:=9) (x:=(.tmp 60)) (p:=⟨b236,p237 + (1 : Int).toNat * 1,none⟩) (v:=.string (gt t5 (1 : Int))) (by kernel_rfl) (by kernel_rfl) (by kernel_rfl) (loads_at 0 ((hS44.row 0 rfl).at2 hA238 len_encS (by omega) g234.1 g234.2) (by kernel_rfl) (by kernel_rfl)) ?_
         refine sx_split 1 (todo':=[.inRegion (opsOf p15_27) [8,9],.code p15_28,.inBlock 0,.code p15_16]) (us:=[]) (d:=62) (t:=(seq (gt t5 (1 : Int)) (⟨#[102]⟩ : ByteArray))) (by kernel_rfl) (fun h240 => ?_) (fun h241 => ?_)
         ·skip
          have hp242:=ite_t hp235 h240
          refine sx_run 7 (todo':=[.inRegion (opsOf p15_29) [1,2,3,4,5,6,7,8],.code p15_30,.inBlock 0,.code p15_16]) (us:=[(63,.bool true),(54,.bool true),(65,.slice Q6 t5.length Q7)]) (by kernel_rfl) ?_
          obtain ⟨g243,hp244⟩:=ite_some hp242
          obtain ⟨b245,p246,hA247,-⟩:=(hS44.row 0 rfl).at_ len_encS (by omega) g243.1 g243.2
          refine r_indexAddr (c:=p15_29) (i:=1) (d:=(some 66)) (ty:=0) (t:=41) (e:=9) (n:=t5.length) (cp:=Q7) (sz:=1) (kk:=.i64) (x:=(.tmp 65)) (y:=(.const (.int .i64 2))) (b:=b245) (o':=p246) (j:=(2 : Int)) (by kernel_rfl) (by kernel_rfl) (slv (by kernel_rfl) hA247) (by kernel_rfl) (by kernel_rfl) (by kernel_rfl) g243.1 g243.2 ?_
          refine r_load (c:=p15_29) (i:=2) (d:=(some 67)) (ty:=9) (t:=9) (x:=(.tmp 66)) (p:=⟨b245,p246 + (2 : Int).toNat * 1,none⟩) (v:=.string (gt t5 (2 : Int))) (by kernel_rfl) (by kernel_rfl) (by kernel_rfl) (loads_at 0 ((hS44.row 0 rfl).at2 hA247 len_encS (by omega) g243.1 g243.2) (by kernel_rfl) (by kernel_rfl)) ?_
          obtain ⟨⟨t249,t250⟩,hr251,hp252⟩:=bind_some' hp244
          try dsimp only at hp252
          refine r_call1 (c:=p15_29) (i:=3) (d:=(some 68)) (g:=27) (args:=#[.string (gt t5 (2 : Int))]) (by kernel_rfl) (by kernel_rfl) (by kernel_rfl) (by kernel_rfl) (script_number.ok (gt t5 (2 : Int)) hS44 hE hr251) ?_
          rintro _ w253 ⟨rfl,hS254⟩
          refine ⟨.tuple #[.int .i64 t249,.bool t250],rfl,?_⟩
          refine sx_run 13 (todo':=[.inRegion (opsOf p15_31) [5,6,7,8,9],.code p15_32,.inBlock 0,.code p15_16]) (us:=[(64,.tuple #[.int .i64 t249,.bool t250]),(69,.int .i64 t249),(70,.bool t250),(7,.int .i64 t249),(8,.bool t250),(71,.int .i64 t39),(72,.int .i64 t249),(73,.agg (enc_api_Pick (⟨t39,2,t249⟩ : api_Pick)).toArray),(74,.bool t250),(75,.bool t250)]) (by kernel_rfl) ?_
          cases t250
          ·skip
           have hp255:=ite_f hp252 rfl
           refine sx_run 3 (todo':=[.inRegion (opsOf p15_31) [8,9],.code p15_32,.inBlock 0,.code p15_16]) (us:=[(76,undef),(77,undef),(78,.bool false)]) (by kernel_rfl) ?_
           have hS256:=hS254.pick1
           refine r_store (c:=p15_31) (i:=8) (d:=none) (ty:=0) (t:=24) (x:=(.tmp 2)) (y:=(.tmp 73)) (b:=b1) (o:=0) (e:=24) (cs:=enc_api_Pick (⟨0,0,0⟩ : api_Pick)) (v:=.agg (enc_api_Pick (⟨t39,2,t249⟩ : api_Pick)).toArray) (vs:=enc_api_Pick (⟨t39,2,t249⟩ : api_Pick)) (cs':=enc_api_Pick (⟨t39,2,t249⟩ : api_Pick)) hS256 (by kernel_rfl) (by kernel_rfl) (by kernel_rfl) (by kernel_rfl) (by kernel_rfl) (by kernel_rfl) (one_api_Pick _) (Nat.le_of_ble_eq_true (by kernel_rfl)) (by kernel_rfl) ?_
           intro w257 hS258
           refine sx_run 2 (todo':=[.code p15_32,.inBlock 0,.code p15_16]) (us:=[(3,.bool false)]) (by kernel_rfl) ?_
           refine r_isret (c:=p15_32) (by kernel_rfl) ?_
           have hS259:=hS258.drop
           have hS260:=hS259.drop
           refine runs_ret (fn:=Tryd.f15) (v:=.tuple #[.agg (enc_api_Pick (⟨t39,2,t249⟩ : api_Pick)).toArray,.bool false]) Tryd.func15 (resl_run (fn:=Tryd.f15) (by kernel_rfl) (.cell (t:=2) (ty:=24) (by kernel_rfl) (loads_agg (hS258.blk 0 rfl) (by kernel_rfl) (by kernel_rfl)) (.tmp (t:=3) (by kernel_rfl) .nil))) ?_
           have hr261:=(hq60 _ (Option.some.inj hp255))
           cases hr261
           exact hR _ _ ⟨rfl,hS260⟩
          ·skip
           have hp262:=ite_t hp252 rfl
           refine sx_split 2 (todo':=[.inRegion (opsOf p15_31) [7,8,9],.code p15_32,.inBlock 0,.code p15_16]) (us:=[(76,.int .i64 t249)]) (d:=77) (t:=(decide (t249 > 0))) (by kernel_rfl) (fun h263 => ?_) (fun h264 => ?_)
           ·skip
            have hp265:=ite_t hp262 h263
            refine sx_run 1 (todo':=[.inRegion (opsOf p15_31) [8,9],.code p15_32,.inBlock 0,.code p15_16]) (us:=[(78,.bool true)]) (by kernel_rfl) ?_
            have hS266:=hS254.pick1
            refine r_store (c:=p15_31) (i:=8) (d:=none) (ty:=0) (t:=24) (x:=(.tmp 2)) (y:=(.tmp 73)) (b:=b1) (o:=0) (e:=24) (cs:=enc_api_Pick (⟨0,0,0⟩ : api_Pick)) (v:=.agg (enc_api_Pick (⟨t39,2,t249⟩ : api_Pick)).toArray) (vs:=enc_api_Pick (⟨t39,2,t249⟩ : api_Pick)) (cs':=enc_api_Pick (⟨t39,2,t249⟩ : api_Pick)) hS266 (by kernel_rfl) (by kernel_rfl) (by kernel_rfl) (by kernel_rfl) (by kernel_rfl) (by kernel_rfl) (one_api_Pick _) (Nat.le_of_ble_eq_true (by kernel_rfl)) (by kernel_rfl) ?_
            intro w267 hS268
            refine sx_run 2 (todo':=[.code p15_32,.inBlock 0,.code p15_16]) (us:=[(3,.bool true)]) (by kernel_rfl) ?_
            refine r_isret (c:=p15_32) (by kernel_rfl) ?_
            have hS269:=hS268.drop
            have hS270:=hS269.drop
            refine runs_ret (fn:=Tryd.f15) (v:=.tuple #[.agg (enc_api_Pick (⟨t39,2,t249⟩ : api_Pick)).toArray,.bool true]) Tryd.func15 (resl_run (fn:=Tryd.f15) (by kernel_rfl) (.cell (t:=2) (ty:=24) (by kernel_rfl) (loads_agg (hS268.blk 0 rfl) (by kernel_rfl) (by kernel_rfl)) (.tmp (t:=3) (by kernel_rfl) .nil))) ?_
            have hr271:=(hq60 _ (Option.some.inj hp265))
            cases hr271
            exact hR _ _ ⟨rfl,hS270⟩
           ·skip
            have hp272:=ite_f hp262 h264
            refine sx_run 1 (todo':=[.inRegion (opsOf p15_31) [8,9],.code p15_32,.inBlock 0,.code p15_16]) (us:=[(78,.bool false)]) (by kernel_rfl) ?_
            have hS273:=hS254.pick1
            refine r_store (c:=p15_31) (i:=8) (d:=none) (ty:=0) (t:=24) (x:=(.tmp 2)) (y:=(.tmp 73)) (b:=b1) (o:=0) (e:=24) (cs:=enc_api_Pick (⟨0,0,0⟩ : api_Pick)) (v:=.agg (enc_api_Pick (⟨t39,2,t249⟩ : api_Pick)).toArray) (vs:=enc_api_Pick (⟨t39,2,t249⟩ : api_Pick)) (cs':=enc_api_Pick (⟨t39,2,t249⟩ : api_Pick)) hS273 (by kernel_rfl) (by kernel_rfl) (by kernel_rfl) (by kernel_rfl) (by kernel_rfl) (by kernel_rfl) (one_api_Pick _) (Nat.le_of_ble_eq_true (by kernel_rfl)) (by kernel_rfl) ?_
            intro w274 hS275
            refine sx_run 2 (todo':=[.code p15_32,.inBlock 0,.code p15_16]) (us:=[(3,.bool false)]) (by kernel_rfl) ?_
            refine r_isret (c:=p15_32) (by kernel_rfl) ?_
            have hS276:=hS275.drop
            have hS277:=hS276.drop
            refine runs_ret (fn:=Tryd.f15) (v:=.tuple #[.agg (enc_api_Pick (⟨t39,2,t249⟩ : api_Pick)).toArray,.bool false]) Tryd.func15 (resl_run (fn:=Tryd.f15) (by kernel_rfl) (.cell (t:=2) (ty:=24) (by kernel_rfl) (loads_agg (hS275.blk 0 rfl) (by kernel_rfl) (by kernel_rfl)) (.tmp (t:=3) (by kernel_rfl) .nil))) ?_
            have hr278:=(hq60 _ (Option.some.inj hp272))
            cases hr278
            exact hR _ _ ⟨rfl,hS277⟩
         ·skip
          have hp279:=ite_f hp235 h241
          refine sx_run 6 (todo':=[.code p15_16]) (us:=[(63,.bool false),(54,.bool false)]) (by kernel_rfl) ?_
          have hS280:=hS44.drop
          refine Runs.fill (m:=(mk 80 [(2,.pointer (some ⟨b1,0,none⟩))])) (by kernel_rfl) ?_
          exact J61 (Option.some.inj hp279) _ _ hS280
        ·skip
         have hp281:=ite_f hp230 h232
         refine sx_run 11 (todo':=[.code p15_16]) (us:=[(58,.bool false),(59,undef),(60,undef),(61,undef),(62,undef),(63,.bool false),(54,.bool false)]) (by kernel_rfl) ?_
         have hS282:=hS44.drop
         refine Runs.fill (m:=(mk 80 [(2,.pointer (some ⟨b1,0,none⟩))])) (by kernel_rfl) ?_
         exact J61 (Option.some.inj hp281) _ _ hS282
      ·skip
       have hp283:=ite_f hp211 h213
       refine sx_split 14 (todo':=[.inRegion (opsOf p15_27) [3,4,5,6,7,8,9],.code p15_28,.inBlock 0,.code p15_16]) (us:=[(46,.bool false),(47,undef),(48,undef),(49,undef),(50,undef),(51,.bool false),(42,.bool false),(55,.slice Q6 t5.length Q7),(56,.int .i64 (t5.length : Int))]) (d:=57) (t:=((t5.length : Int) == 3)) (by kernel_rfl) (fun h284 => ?_) (fun h285 => ?_)
       ·skip
        have hp286:=ite_t hp283 h284
        refine sx_run 2 (todo':=[.inRegion (opsOf p15_27) [5,6,7,8,9],.code p15_28,.inBlock 0,.code p15_16]) (us:=[(58,.bool true),(59,.slice Q6 t5.length Q7)]) (by kernel_rfl) ?_
        obtain ⟨g287,hp288⟩:=ite_some hp286
        obtain ⟨b289,p290,hA291,-⟩:=(hS44.row 0 rfl).at_ len_encS (by omega) g287.1 g287.2
        refine r_indexAddr (c:=p15_27) (i:=5) (d:=(some 60)) (ty:=0) (t:=41) (e:=9) (n:=t5.length) (cp:=Q7) (sz:=1) (kk:=.i64) (x:=(.tmp 59)) (y:=(.const (.int .i64 1))) (b:=b289) (o':=p290) (j:=(1 : Int)) (by kernel_rfl) (by kernel_rfl) (slv (by kernel_rfl) hA291) (by kernel_rfl) (by kernel_rfl) (by kernel_rfl) g287.1 g287.2 ?_
        refine r_load (c:=p15_27) (i:=6) (d:=(some 61)) (ty:=9) (t:=9) (x:=(.tmp 60)) (p:=⟨b289,p290 + (1 : Int).toNat * 1,none⟩) (v:=.string (gt t5 (1 : Int))) (by kernel_rfl) (by kernel_rfl) (by kernel_rfl) (loads_at 0 ((hS44.row 0 rfl).at2 hA291 len_encS (by omega) g287.1 g287.2) (by kernel_rfl) (by kernel_rfl)) ?_
        refine sx_split 1 (todo':=[.inRegion (opsOf p15_27) [8,9],.code p15_28,.inBlock 0,.code p15_16]) (us:=[]) (d:=62) (t:=(seq (gt t5 (1 : Int)) (⟨#[102]⟩ : ByteArray))) (by kernel_rfl) (fun h293 => ?_) (fun h294 => ?_)
        ·skip
         have hp295:=ite_t hp288 h293
         refine sx_run 7 (todo':=[.inRegion (opsOf p15_29) [1,2,3,4,5,6,7,8],.code p15_30,.inBlock 0,.code p15_16]) (us:=[(63,.bool true),(54,.bool true),(65,.slice Q6 t5.length Q7)]) (by kernel_rfl) ?_
         obtain ⟨g296,hp297⟩:=ite_some hp295
         obtain ⟨b298,p299,hA300,-⟩:=(hS44.row 0 rfl).at_ len_encS (by omega) g296.1 g296.2
         refine r_indexAddr (c:=p15_29) (i:=1) (d:=(some 66)) (ty:=0) (t:=41) (e:=9) (n:=t5.length) (cp:=Q7) (sz:=1) (kk:=.i64) (x:=(.tmp 65)) (y:=(.const (.int .i64 2))) (b:=b298) (o':=p299) (j:=(2 : Int)) (by kernel_rfl) (by kernel_rfl) (slv (by kernel_rfl) hA300) (by kernel_rfl) (by kernel_rfl) (by kernel_rfl) g296.1 g296.2 ?_
         refine r_load (c:=p15_29) (i:=2) (d:=(some 67)) (ty:=9) (t:=9) (x:=(.tmp 66)) (p:=⟨b298,p299 + (2 : Int).toNat * 1,none⟩) (v:=.string (gt t5 (2 : Int))) (by kernel_rfl) (by kernel_rfl) (by kernel_rfl) (loads_at 0 ((hS44.row 0 rfl).at2 hA300 len_encS (by omega) g296.1 g296.2) (by kernel_rfl) (by kernel_rfl)) ?_
         obtain ⟨⟨t302,t303⟩,hr304,hp305⟩:=bind_some' hp297
         try dsimp only at hp305
         refine r_call1 (c:=p15_29) (i:=3) (d:=(some 68)) (g:=27) (args:=#[.string (gt t5 (2 : Int))]) (by kernel_rfl) (by kernel_rfl) (by kernel_rfl) (by kernel_rfl) (script_number.ok (gt t5 (2 : Int)) hS44 hE hr304) ?_
         rintro _ w306 ⟨rfl,hS307⟩
         refine ⟨.tuple #[.int .i64 t302,.bool t303],rfl,?_⟩
         refine sx_run 13 (todo':=[.inRegion (opsOf p15_31) [5,6,7,8,9],.code p15_32,.inBlock 0,.code p15_16]) (us:=[(64,.tuple #[.int .i64 t302,.bool t303]),(69,.int .i64 t302),(70,.bool t303),(7,.int .i64 t302),(8,.bool t303),(71,.int .i64 t39),(72,.int .i64 t302),(73,.agg (enc_api_Pick (⟨t39,2,t302⟩ : api_Pick)).toArray),(74,.bool t303),(75,.bool t303)]) (by kernel_rfl) ?_
         cases t303
         ·skip
          have hp308:=ite_f hp305 rfl
          refine sx_run 3 (todo':=[.inRegion (opsOf p15_31) [8,9],.code p15_32,.inBlock 0,.code p15_16]) (us:=[(76,undef),(77,undef),(78,.bool false)]) (by kernel_rfl) ?_
          have hS309:=hS307.pick1
          refine r_store (c:=p15_31) (i:=8) (d:=none) (ty:=0) (t:=24) (x:=(.tmp 2)) (y:=(.tmp 73)) (b:=b1) (o:=0) (e:=24) (cs:=enc_api_Pick (⟨0,0,0⟩ : api_Pick)) (v:=.agg (enc_api_Pick (⟨t39,2,t302⟩ : api_Pick)).toArray) (vs:=enc_api_Pick (⟨t39,2,t302⟩ : api_Pick)) (cs':=enc_api_Pick (⟨t39,2,t302⟩ : api_Pick)) hS309 (by kernel_rfl) (by kernel_rfl) (by kernel_rfl) (by kernel_rfl) (by kernel_rfl) (by kernel_rfl) (one_api_Pick _) (Nat.le_of_ble_eq_true (by kernel_rfl)) (by kernel_rfl) ?_
          intro w310 hS311
          refine sx_run 2 (todo':=[.code p15_32,.inBlock 0,.code p15_16]) (us:=[(3,.bool false)]) (by kernel_rfl) ?_
          refine r_isret (c:=p15_32) (by kernel_rfl) ?_
          have hS312:=hS311.drop
          have hS313:=hS312.drop
          refine runs_ret (fn:=Tryd.f15) (v:=.tuple #[.agg (enc_api_Pick (⟨t39,2,t302⟩ : api_Pick)).toArray,.bool false]) Tryd.func15 (resl_run (fn:=Tryd.f15) (by kernel_rfl) (.cell (t:=2) (ty:=24) (by kernel_rfl) (loads_agg (hS311.blk 0 rfl) (by kernel_rfl) (by kernel_rfl)) (.tmp (t:=3) (by kernel_rfl) .nil))) ?_
          have hr314:=(hq60 _ (Option.some.inj hp308))
          cases hr314
          exact hR _ _ ⟨rfl,hS313⟩
         ·skip
          have hp315:=ite_t hp305 rfl
          refine sx_split 2 (todo':=[.inRegion (opsOf p15_31) [7,8,9],.code p15_32,.inBlock 0,.code p15_16]) (us:=[(76,.int .i64 t302)]) (d:=77) (t:=(decide (t302 > 0))) (by kernel_rfl) (fun h316 => ?_) (fun h317 => ?_)
          ·skip
           have hp318:=ite_t hp315 h316
           refine sx_run 1 (todo':=[.inRegion (opsOf p15_31) [8,9],.code p15_32,.inBlock 0,.code p15_16]) (us:=[(78,.bool true)]) (by kernel_rfl) ?_
           have hS319:=hS307.pick1
           refine r_store (c:=p15_31) (i:=8) (d:=none) (ty:=0) (t:=24) (x:=(.tmp 2)) (y:=(.tmp 73)) (b:=b1) (o:=0) (e:=24) (cs:=enc_api_Pick (⟨0,0,0⟩ : api_Pick)) (v:=.agg (enc_api_Pick (⟨t39,2,t302⟩ : api_Pick)).toArray) (vs:=enc_api_Pick (⟨t39,2,t302⟩ : api_Pick)) (cs':=enc_api_Pick (⟨t39,2,t302⟩ : api_Pick)) hS319 (by kernel_rfl) (by kernel_rfl) (by kernel_rfl) (by kernel_rfl) (by kernel_rfl) (by kernel_rfl) (one_api_Pick _) (Nat.le_of_ble_eq_true (by kernel_rfl)) (by kernel_rfl) ?_
           intro w320 hS321
           refine sx_run 2 (todo':=[.code p15_32,.inBlock 0,.code p15_16]) (us:=[(3,.bool true)]) (by kernel_rfl) ?_
           refine r_isret (c:=p15_32) (by kernel_rfl) ?_
           have hS322:=hS321.drop
           have hS323:=hS322.drop
           refine runs_ret (fn:=Tryd.f15) (v:=.tuple #[.agg (enc_api_Pick (⟨t39,2,t302⟩ : api_Pick)).toArray,.bool true]) Tryd.func15 (resl_run (fn:=Tryd.f15) (by kernel_rfl) (.cell (t:=2) (ty:=24) (by kernel_rfl) (loads_agg (hS321.blk 0 rfl) (by kernel_rfl) (by kernel_rfl)) (.tmp (t:=3) (by kernel_rfl) .nil))) ?_
           have hr324:=(hq60 _ (Option.some.inj hp318))
           cases hr324
           exact hR _ _ ⟨rfl,hS323⟩
          ·skip
           have hp325:=ite_f hp315 h317
           refine sx_run 1 (todo':=[.inRegion (opsOf p15_31) [8,9],.code p15_32,.inBlock 0,.code p15_16]) (us:=[(78,.bool false)]) (by kernel_rfl) ?_
           have hS326:=hS307.pick1
           refine r_store (c:=p15_31) (i:=8) (d:=none) (ty:=0) (t:=24) (x:=(.tmp 2)) (y:=(.tmp 73)) (b:=b1) (o:=0) (e:=24) (cs:=enc_api_Pick (⟨0,0,0⟩ : api_Pick)) (v:=.agg (enc_api_Pick (⟨t39,2,t302⟩ : api_Pick)).toArray) (vs:=enc_api_Pick (⟨t39,2,t302⟩ : api_Pick)) (cs':=enc_api_Pick (⟨t39,2,t302⟩ : api_Pick)) hS326 (by kernel_rfl) (by kernel_rfl) (by kernel_rfl) (by kernel_rfl) (by kernel_rfl) (by kernel_rfl) (one_api_Pick _) (Nat.le_of_ble_eq_true (by kernel_rfl)) (by kernel_rfl) ?_
           intro w327 hS328
           refine sx_run 2 (todo':=[.code p15_32,.inBlock 0,.code p15_16]) (us:=[(3,.bool false)]) (by kernel_rfl) ?_
           refine r_isret (c:=p15_32) (by kernel_rfl) ?_
           have hS329:=hS328.drop
           have hS330:=hS329.drop
           refine runs_ret (fn:=Tryd.f15) (v:=.tuple #[.agg (enc_api_Pick (⟨t39,2,t302⟩ : api_Pick)).toArray,.bool false]) Tryd.func15 (resl_run (fn:=Tryd.f15) (by kernel_rfl) (.cell (t:=2) (ty:=24) (by kernel_rfl) (loads_agg (hS328.blk 0 rfl) (by kernel_rfl) (by kernel_rfl)) (.tmp (t:=3) (by kernel_rfl) .nil))) ?_
           have hr331:=(hq60 _ (Option.some.inj hp325))
           cases hr331
           exact hR _ _ ⟨rfl,hS330⟩
        ·skip
         have hp332:=ite_f hp288 h294
         refine sx_run 6 (todo':=[.code p15_16]) (us:=[(63,.bool false),(54,.bool false)]) (by kernel_rfl) ?_
         have hS333:=hS44.drop
         refine Runs.fill (m:=(mk 80 [(2,.pointer (some ⟨b1,0,none⟩))])) (by kernel_rfl) ?_
         exact J61 (Option.some.inj hp332) _ _ hS333
       ·skip
        have hp334:=ite_f hp283 h285
        refine sx_run 11 (todo':=[.code p15_16]) (us:=[(58,.bool false),(59,undef),(60,undef),(61,undef),(62,undef),(63,.bool false),(54,.bool false)]) (by kernel_rfl) ?_
        have hS335:=hS44.drop
        refine Runs.fill (m:=(mk 80 [(2,.pointer (some ⟨b1,0,none⟩))])) (by kernel_rfl) ?_
        exact J61 (Option.some.inj hp334) _ _ hS335

noncomputable def cd6 (p : List Nat) : Code:=sub (bodyOf Tryd.f6) p
noncomputable abbrev p6_0 : Code:=cd6 [1,0,0]
noncomputable abbrev p6_1 : Code:=cd6 [1,0,1]
noncomputable abbrev p6_2 : Code:=cd6 [1,1]
noncomputable abbrev p6_3 : Code:=cd6 [1,0,1,0,1]
noncomputable abbrev p6_4 : Code:=cd6 [1,1,1,1,0,1,0,0]
noncomputable abbrev p6_5 : Code:=cd6 [1,1,1,1,1]
noncomputable abbrev p6_6 : Code:=cd6 [1,1,1,1,1,1]
noncomputable abbrev p6_7 : Code:=cd6 [1,1,1,1,0,1,0,0,0,0]
noncomputable abbrev p6_8 : Code:=cd6 [1,1,1,1,0,1,0,0,0,1]
noncomputable abbrev p6_9 : Code:=cd6 [1,1,1,1,0,1,0,0,1]
noncomputable abbrev p6_10 : Code:=cd6 [1,1,1,1,0,1,0,0,1,0,0,0]
noncomputable abbrev p6_11 : Code:=cd6 [1,1,1,1,0,1,0,0,1,0,0,1]
noncomputable abbrev p6_12 : Code:=cd6 [1,1,1,1,0,1,0,0,1,0,1]
noncomputable abbrev p6_13 : Code:=cd6 [1,1,1,1,0,1,0,0,1,0,0,1,0,1,0,0]
noncomputable abbrev p6_14 : Code:=cd6 [1,1,1,1,0,1,0,0,1,0,0,1,0,1,0,1]
noncomputable abbrev p6_15 : Code:=cd6 [1,1,1,1,0,1,0,0,1,0,0,1,0,1,1]
noncomputable abbrev p6_16 : Code:=cd6 [1,1,1,1,0,1,0,0,1,0,1,1,0,0,0]
noncomputable abbrev p6_17 : Code:=cd6 [1,1,1,1,0,1,0,0,1,0,1,1,1]
noncomputable abbrev p6_18 : Code:=cd6 [1,1,1,1,0,1,0,0,1,0,1,1,1,0]
noncomputable abbrev p6_19 : Code:=cd6 [1,1,1,1,0,1,0,0,1,0,1,1,1,1]
noncomputable abbrev p6_20 : Code:=cd6 [1,1,1,1,0,1,0,0,1,0,1,1,1,1,0,0]
noncomputable abbrev p6_21 : Code:=cd6 [1,1,1,1,0,1,0,0,1,0,1,1,1,1,0,1]
noncomputable abbrev p6_22 : Code:=cd6 [1,1,1,1,0,1,0,0,1,0,1,1,1,1,1]
noncomputable abbrev p6_23 : Code:=cd6 [1,1,1,1,0,1,0,0,1,0,1,1,1,1,0,1,0,0]
noncomputable abbrev p6_24 : Code:=cd6 [1,1,1,1,0,1,0,0,1,0,1,1,1,1,0,1,0,1]
noncomputable abbrev p6_25 : Code:=cd6 [1,1,1,1,0,1,0,0,1,0,1,1,1,1,1,0]
noncomputable abbrev p6_26 : Code:=cd6 [1,1,1,1,0,1,0,0,1,0,1,1,1,1,1,1]
noncomputable abbrev p6_27 : Code:=cd6 [1,1,1,1,0,1,0,0,1,0,1,1,0,0,0,0,0]
noncomputable abbrev p6_28 : Code:=cd6 [1,1,1,1,0,1,0,0,1,0,1,1,0,0,0,0,1]
noncomputable abbrev p6_29 : Code:=cd6 [1,1,1,1,0,1,0,0,1,0,1,1,0,0,0,1]
def script_Parse.l1 (a0 : ByteArray) (t120 : Int) : Option Int :=
  (if (decide (t120 < (a0.size : Int))) = true then (if 0 ≤ t120 ∧ t120 < (a0.size : Int) then (strings_IndexByte.f (⟨#[32,9,10,13]⟩ : ByteArray) (byt a0 t120) >>= (fun t135 => (if (decide (t135 < 0)) = true then (script_Parse.l1 a0 (IntKind.i64.wrap (t120 + 1))) else some (t120)))) else none) else some (t120))
 partial_fixpoint
def script_Parse.l0 (a0 : ByteArray) (t24 : List api_Pick) (t28 : Int) (t29 : Int) (t30 : Int) : Option (Sum (List api_Pick) ((List api_Pick) × PErr)) :=
  (if (decide (t30 < (a0.size : Int))) = true then (if 0 ≤ t30 ∧ t30 < (a0.size : Int) then (strings_IndexByte.f (⟨#[32,9,10,13]⟩ : ByteArray) (byt a0 t30) >>= (fun t46 => (if (decide (t46 ≥ 0)) = true then (if 0 ≤ t30 ∧ t30 < (a0.size : Int) then (if ((byt a0 t30) == 10) = true then (script_Parse.l0 a0 (id t24) (IntKind.i64.wrap (t28 + 1)) 1 (IntKind.i64.wrap (t30 + 1))) else (script_Parse.l0 a0 (id t24) (id t28) (IntKind.i64.wrap (t29 + 1)) (IntKind.i64.wrap (t30 + 1)))) else none) else (script_Parse.l1 a0 t30 >>= (fun t64 => (if 0 ≤ t30 ∧ t30 ≤ t64 ∧ t64 ≤ (a0.size : Int) then (script_pick.f (a0.extract t30.toNat t64.toNat) >>= (fun (t72,t73) => (if (!t73) = true then some (.inr (([],(.pos t28 t29 150)))) else (if (t24.length + ([t72] : List api_Pick).length) * 24 ≤ 140737488355328 then (script_Parse.l0 a0 (t24 ++ ([t72] : List api_Pick)) (id t28) (IntKind.i64.wrap (t29 + (IntKind.i64.wrap (t64 - t30)))) t64) else none)))) else none)))))) else none) else some (.inl t24))
 partial_fixpoint
def script_Parse.f (a0 : ByteArray) : Option ((List api_Pick) × PErr) :=
  (if (decide ((a0.size : Int) > 1048576)) = true then some (([],(.num 1))) else (script_Parse.l0 a0 [] 1 1 0 >>= (fun | .inl t12 => some ((t12,.nil)) | .inr e => some e)))
set_option maxHeartbeats 16000000 in
theorem script_Parse.ok (a0 : ByteArray) {w0 : World} {Z : Zm} {fs : List XObj} {w : World} (hS0 : St w0 Z (fs) w) (hE : Env Z) {q0 : List api_Pick} {q1 : PErr} (hp0 : script_Parse.f a0 = some (q0,q1)) :
    Calls Tryd.prog 6 #[.string a0] w (fun e w' => ∃ (QA0 : Option Addr) (Qc0 : Nat) (Qv2 : Value) (Z' : Zm),Zm.Le Z Z' ∧ e = .returned (.tuple #[.slice QA0 q0.length Qc0,Qv2]) ∧ St w0 Z' (xrow QA0 Qc0 24 3 (q0.flatMap enc_api_Pick)::fs) w' ∧ RepE 25 51 Z' Qv2 q1):=by
  refine calls_abs ?_; intro R hR
  unfold script_Parse.f at hp0
  refine calls_of_runs (fn:=Tryd.f6) (c:=cd6 []) Tryd.func6 (by kernel_rfl) (al:=[.string a0]) rfl (n:=74) rfl ?_
  refine sx_split 11 (todo':=[.inRegion (opsOf p6_0) [],.code p6_1,.code p6_2]) (us:=[(2,.slice none 0 0),(3,.nilIface),(11,.string a0),(12,.int .i64 (a0.size : Int))]) (d:=13) (t:=(decide ((a0.size : Int) > 1048576))) (by kernel_rfl) (fun h1 => ?_) (fun h2 => ?_)
  ·skip
   have hp3:=ite_t hp0 h1
   refine sx_run 8 (todo':=[.code p6_3,.code p6_2]) (us:=[(14,.iface 25 (.int .i64 1)),(2,.slice none 0 0),(3,.iface 25 (.int .i64 1))]) (by kernel_rfl) ?_
   have hS5:=hS0.nilrow none 24 3
   refine runs_ret (fn:=Tryd.f6) (v:=.tuple #[.slice none 0 0,.iface 25 (.int .i64 1)]) Tryd.func6 (by kernel_rfl) ?_
   have hr7:=(Option.some.inj hp3)
   cases hr7
   exact hR _ _ ⟨none,0,(.iface 25 (.int .i64 1)),Z,(Zm.Le.refl _),rfl,hS5,(RepE.of_num)⟩
  ·skip
   have hp8:=ite_f hp0 h2
   refine sx_run 19 (todo':=[.code p6_4,.inLoop p6_4,.inBlock 0,.code p6_5]) (us:=[(4,.slice none 0 0),(5,.int .i64 1),(6,.int .i64 1),(7,.int .i64 0)]) (by kernel_rfl) ?_
   obtain ⟨v9,hv10,hp11⟩:=bind_some' hp8
   have hq18 : ∀ x,Sum.inr x = v9 → x = (q0,q1):=by intro x hx; subst hx; simpa using hp11
   have J19 : ∀ (t12 : List api_Pick) (he21 : Sum.inl t12 = v9) (l20 : List Value) (A13 : Option Addr) (c14 : Nat) (w16 : World) (hS17 : St w0 Z (xrow A13 c14 24 3 (t12.flatMap enc_api_Pick)::fs) w16),Runs Tryd.prog (fx 6) [.code p6_5] (fill (mk 75 [(4,.slice A13 t12.length c14)]) l20) w16 R:=by
    intro t12 he21 l20 A13 c14 w16 hS17
    subst he21
    try dsimp only at hp11
    refine sx_run 6 (todo':=[.code p6_6]) (us:=[(74,.slice A13 t12.length c14),(2,.slice A13 t12.length c14),(3,.nilIface)]) (by kernel_rfl) ?_
    refine runs_ret (fn:=Tryd.f6) (v:=.tuple #[.slice A13 t12.length c14,.nilIface]) Tryd.func6 (by kernel_rfl) ?_
    have hr23:=(Option.some.inj hp11)
    cases hr23
    exact hR _ _ ⟨A13,c14,.nilIface,Z,(Zm.Le.refl _),rfl,hS17,(RepE.of_nil)⟩
   have L39 : ∀ (t24 : List api_Pick) (t28 : Int) (t29 : Int) (t30 : Int) (e34 : Sum (List api_Pick) ((List api_Pick) × PErr)),script_Parse.l0 a0 t24 t28 t29 t30 = some e34 → e34 = v9 → ∀ (l33 : List Value) (A25 : Option Addr) (c26 : Nat) (w31 : World) (hS32 : St w0 Z (xrow A25 c26 24 3 (t24.flatMap enc_api_Pick)::fs) w31),Runs Tryd.prog (fx 6) [.code p6_4,.inLoop p6_4,.inBlock 0,.code p6_5] (fill (mk 75 [(0,.string a0),(4,.slice A25 t24.length c26),(5,.int .i64 t28),(6,.int .i64 t29),(7,.int .i64 t30)]) l33) w31 R:=by
    refine script_Parse.l0.partial_correctness a0 (fun t24 t28 t29 t30 e34 => e34 = v9 → ∀ (l33 : List Value) (A25 : Option Addr) (c26 : Nat) (w31 : World) (hS32 : St w0 Z (xrow A25 c26 24 3 (t24.flatMap enc_api_Pick)::fs) w31),Runs Tryd.prog (fx 6) [.code p6_4,.inLoop p6_4,.inBlock 0,.code p6_5] (fill (mk 75 [(0,.string a0),(4,.slice A25 t24.length c26),(5,.int .i64 t28),(6,.int .i64 t29),(7,.int .i64 t30)]) l33) w31 R) ?_
    intro rec38 ih37 t24 t28 t29 t30 e34 hb36 he35 l33 A25 c26 w31 hS32
    have hq40 : ∀ x,Sum.inr x = e34 → x = (q0,q1):=fun x hx => hq18 x (hx.trans he35)
    refine sx_split 7 (todo':=[.inRegion (opsOf p6_7) [],.code p6_8,.code p6_9,.inLoop p6_4,.inBlock 0,.code p6_5]) (us:=[(15,.int .i64 t30),(16,.string a0),(17,.int .i64 (a0.size : Int))]) (d:=18) (t:=(decide (t30 < (a0.size : Int)))) (by kernel_rfl) (fun h41 => ?_) (fun h42 => ?_)
    ·skip
     have hp43:=ite_t hb36 h41
     refine sx_run 9 (todo':=[.inRegion (opsOf p6_10) [2,3,4],.code p6_11,.code p6_12,.inBlock 1,.inLoop p6_4,.inBlock 0,.code p6_5]) (us:=[(19,.string a0),(20,.int .i64 t30)]) (by kernel_rfl) ?_
     obtain ⟨g44,hp45⟩:=ite_some hp43
     refine r_val (c:=p6_10) (i:=2) (d:=(some 21)) (ty:=5) (op:=.index 9 (.tmp 19) (.tmp 20)) (v:=.int .u8 (byt a0 t30)) (by kernel_rfl) (by kernel_rfl) (fun o ho _ => x_indexStr (kk:=.i64) (by kernel_rfl) (by kernel_rfl) (by kernel_rfl) g44.1 g44.2 ho) ?_
     obtain ⟨t46,hr47,hp48⟩:=bind_some' hp45
     refine r_call1 (c:=p6_10) (i:=3) (d:=(some 22)) (g:=14) (args:=#[.string (⟨#[32,9,10,13]⟩ : ByteArray),.int .u8 (byt a0 t30)]) (by kernel_rfl) (by kernel_rfl) (by kernel_rfl) (by kernel_rfl) (strings_IndexByte.ok (⟨#[32,9,10,13]⟩ : ByteArray) (byt a0 t30) hS32 hr47) ?_
     rintro _ w49 ⟨rfl,hS50⟩
     refine ⟨.int .i64 t46,rfl,?_⟩
     refine sx_split 1 (todo':=[.inRegion (opsOf p6_10) [],.code p6_11,.code p6_12,.inBlock 1,.inLoop p6_4,.inBlock 0,.code p6_5]) (us:=[]) (d:=23) (t:=(decide (t46 ≥ 0))) (by kernel_rfl) (fun h51 => ?_) (fun h52 => ?_)
     ·skip
      have hp53:=ite_t hp48 h51
      refine sx_run 13 (todo':=[.inRegion (opsOf p6_13) [2,3],.code p6_14,.code p6_15,.code p6_12,.inBlock 1,.inLoop p6_4,.inBlock 0,.code p6_5]) (us:=[(24,.int .i64 t29),(25,.int .i64 (IntKind.i64.wrap (t29 + 1))),(6,.int .i64 (IntKind.i64.wrap (t29 + 1))),(26,.string a0),(27,.int .i64 t30)]) (by kernel_rfl) ?_
      obtain ⟨g54,hp55⟩:=ite_some hp53
      refine r_val (c:=p6_13) (i:=2) (d:=(some 28)) (ty:=5) (op:=.index 9 (.tmp 26) (.tmp 27)) (v:=.int .u8 (byt a0 t30)) (by kernel_rfl) (by kernel_rfl) (fun o ho _ => x_indexStr (kk:=.i64) (by kernel_rfl) (by kernel_rfl) (by kernel_rfl) g54.1 g54.2 ho) ?_
      refine sx_split 1 (todo':=[.inRegion (opsOf p6_13) [],.code p6_14,.code p6_15,.code p6_12,.inBlock 1,.inLoop p6_4,.inBlock 0,.code p6_5]) (us:=[]) (d:=29) (t:=((byt a0 t30) == 10)) (by kernel_rfl) (fun h56 => ?_) (fun h57 => ?_)
      ·skip
       have hp58:=ite_t hp55 h56
       refine sx_run 15 (todo':=[.inLoop p6_4,.inBlock 0,.code p6_5]) (us:=[(30,.int .i64 t28),(31,.int .i64 (IntKind.i64.wrap (t28 + 1))),(5,.int .i64 (IntKind.i64.wrap (t28 + 1))),(6,.int .i64 1),(32,.int .i64 t30),(33,.int .i64 (IntKind.i64.wrap (t30 + 1))),(7,.int .i64 (IntKind.i64.wrap (t30 + 1)))]) (by kernel_rfl) ?_
       refine sx_run 1 (todo':=[.code p6_4,.inLoop p6_4,.inBlock 0,.code p6_5]) (us:=[]) (by kernel_rfl) ?_
       refine Runs.fill (m:=(mk 75 [(0,.string a0),(4,.slice A25 t24.length c26),(5,.int .i64 (IntKind.i64.wrap (t28 + 1))),(6,.int .i64 1),(7,.int .i64 (IntKind.i64.wrap (t30 + 1)))])) (by kernel_rfl) ?_
       exact ih37 (id t24) (IntKind.i64.wrap (t28 + 1)) 1 (IntKind.i64.wrap (t30 + 1)) _ hp58 he35 _ A25 c26 _ hS50
      ·skip
       have hp59:=ite_f hp55 h57
       refine sx_run 10 (todo':=[.inLoop p6_4,.inBlock 0,.code p6_5]) (us:=[(32,.int .i64 t30),(33,.int .i64 (IntKind.i64.wrap (t30 + 1))),(7,.int .i64 (IntKind.i64.wrap (t30 + 1)))]) (by kernel_rfl) ?_
       refine sx_run 1 (todo':=[.code p6_4,.inLoop p6_4,.inBlock 0,.code p6_5]) (us:=[]) (by kernel_rfl) ?_
       refine Runs.fill (m:=(mk 75 [(0,.string a0),(4,.slice A25 t24.length c26),(5,.int .i64 t28),(6,.int .i64 (IntKind.i64.wrap (t29 + 1))),(7,.int .i64 (IntKind.i64.wrap (t30 + 1)))])) (by kernel_rfl) ?_
       exact ih37 (id t24) (id t28) (IntKind.i64.wrap (t29 + 1)) (IntKind.i64.wrap (t30 + 1)) _ hp59 he35 _ A25 c26 _ hS50
     ·skip
      have hp60:=ite_f hp48 h52
      refine sx_run 11 (todo':=[.code p6_16,.inLoop p6_16,.inBlock 2,.code p6_17,.inBlock 1,.inLoop p6_4,.inBlock 0,.code p6_5]) (us:=[(34,.int .i64 t30),(8,.int .i64 t30)]) (by kernel_rfl) ?_
      obtain ⟨v61,hv62,hp63⟩:=bind_some' hp60
      have J67 : ∀ (t64 : Int) (he69 : t64 = v61) (l68 : List Value) (w65 : World) (hS66 : St w0 Z (xrow A25 c26 24 3 (t24.flatMap enc_api_Pick)::fs) w65),Runs Tryd.prog (fx 6) [.code p6_17,.inBlock 1,.inLoop p6_4,.inBlock 0,.code p6_5] (fill (mk 75 [(0,.string a0),(4,.slice A25 t24.length c26),(5,.int .i64 t28),(6,.int .i64 t29),(7,.int .i64 t30),(8,.int .i64 t64)]) l68) w65 R:=by
       intro t64 he69 l68 w65 hS66
       subst he69
       try dsimp only at hp63
       refine sx_run 5 (todo':=[.inRegion (opsOf p6_18) [3,4,5,6,7,8,9,10],.code p6_19,.inBlock 1,.inLoop p6_4,.inBlock 0,.code p6_5]) (us:=[(49,.string a0),(50,.int .i64 t30),(51,.int .i64 t64)]) (by kernel_rfl) ?_
       obtain ⟨g70,hp71⟩:=ite_some hp63
       refine r_val (c:=p6_18) (i:=3) (d:=(some 52)) (ty:=9) (op:=.slice 9 (.tmp 49) (some (.tmp 50)) (some (.tmp 51)) none) (v:=.string (a0.extract t30.toNat t64.toNat)) (by kernel_rfl) (by kernel_rfl) (fun o ho _ => x_cutStr_ss (k:=.i64) (k':=.i64) (by kernel_rfl) (by kernel_rfl) (by kernel_rfl) (by kernel_rfl) g70 ho) ?_
       obtain ⟨⟨t72,t73⟩,hr74,hp75⟩:=bind_some' hp71
       try dsimp only at hp75
       refine r_call1 (c:=p6_18) (i:=4) (d:=(some 53)) (g:=15) (args:=#[.string (a0.extract t30.toNat t64.toNat)]) (by kernel_rfl) (by kernel_rfl) (by kernel_rfl) (by kernel_rfl) (script_pick.ok (a0.extract t30.toNat t64.toNat) hS66 hE hr74) ?_
       rintro _ w76 ⟨rfl,hS77⟩
       refine ⟨.tuple #[.agg (enc_api_Pick t72).toArray,.bool t73],rfl,?_⟩
       refine sx_run 3 (todo':=[.inRegion (opsOf p6_18) [8,9,10],.code p6_19,.inBlock 1,.inLoop p6_4,.inBlock 0,.code p6_5]) (us:=[(48,.tuple #[.agg (enc_api_Pick t72).toArray,.bool t73]),(54,.agg (enc_api_Pick t72).toArray),(55,.bool t73)]) (by kernel_rfl) ?_
       refine r_alloc (c:=p6_18) (i:=8) (d:=(some 9)) (ty:=0) (z:=.agg (enc_api_Pick (⟨0,0,0⟩ : api_Pick)).toArray) (t:=24) (cs:=enc_api_Pick (⟨0,0,0⟩ : api_Pick)) hS77 (by kernel_rfl) (by kernel_rfl) (by kernel_rfl) (by kernel_rfl) ?_
       intro b78 w79 hS80
       refine r_store (c:=p6_18) (i:=9) (d:=none) (ty:=0) (t:=24) (x:=(.tmp 9)) (y:=(.tmp 54)) (b:=b78) (o:=0) (e:=24) (cs:=enc_api_Pick (⟨0,0,0⟩ : api_Pick)) (v:=.agg (enc_api_Pick t72).toArray) (vs:=enc_api_Pick t72) (cs':=enc_api_Pick t72) hS80 (by kernel_rfl) (by kernel_rfl) (by kernel_rfl) (by kernel_rfl) (by kernel_rfl) (by kernel_rfl) (one_api_Pick _) (Nat.le_of_ble_eq_true (by kernel_rfl)) (by kernel_rfl) ?_
       intro w82 hS83
       refine sx_split 7 (todo':=[.inRegion (opsOf p6_20) [],.code p6_21,.code p6_22,.inBlock 1,.inLoop p6_4,.inBlock 0,.code p6_5]) (us:=[(10,.bool t73),(56,.bool t73)]) (d:=57) (t:=(!t73)) (by kernel_rfl) (fun h84 => ?_) (fun h85 => ?_)
       ·skip
        have hp86:=ite_t hp75 h84
        refine sx_run 8 (todo':=[.inRegion (opsOf p6_23) [4,5,6,7],.code p6_24,.code p6_22,.inBlock 1,.inLoop p6_4,.inBlock 0,.code p6_5]) (us:=[(58,.int .i64 t28),(59,.int .i64 t29),(60,.iface 25 (.int .i64 150)),(61,.agg #[.int .i64 t28,.int .i64 t29,.iface 25 (.int .i64 150)])]) (by kernel_rfl) ?_
        refine r_box (c:=p6_23) (i:=4) (d:=(some 62)) (ty:=51) (x:=(.tmp 61)) (v:=.agg #[.int .i64 t28,.int .i64 t29,.iface 25 (.int .i64 150)]) (t:=53) (cs:=[.int .i64 t28,.int .i64 t29,.iface 25 (.int .i64 150)]) hS83 (by kernel_rfl) (by kernel_rfl) (by kernel_rfl) (by kernel_rfl) ?_
        intro b87 w88 hS89
        obtain ⟨Z91,hz92,hS93,hs94,-⟩:=hS89.lendblk
        refine sx_run 4 (todo':=[.code p6_24,.code p6_22,.inBlock 1,.inLoop p6_4,.inBlock 0,.code p6_5]) (us:=[(63,.iface 51 (.pointer (some ⟨b87,0,none⟩))),(2,.slice none 0 0),(3,.iface 51 (.pointer (some ⟨b87,0,none⟩)))]) (by kernel_rfl) ?_
        refine r_isret (c:=p6_24) (by kernel_rfl) ?_
        have hS96:=hS93.nilrow none 24 3
        have hS98:=hS96.pick1
        have hS99:=hS98.drop
        have hS100:=hS99.pick1
        have hS101:=hS100.drop
        refine runs_ret (fn:=Tryd.f6) (v:=.tuple #[.slice none 0 0,.iface 51 (.pointer (some ⟨b87,0,none⟩))]) Tryd.func6 (by kernel_rfl) ?_
        have hr102:=(hq40 _ (Option.some.inj hp86))
        cases hr102
        exact hR _ _ ⟨none,0,(.iface 51 (.pointer (some ⟨b87,0,none⟩))),Z91,hz92,rfl,hS101,(RepE.of_pos hs94)⟩
       ·skip
        have hp103:=ite_f hp75 h85
        refine sx_run 6 (todo':=[.inRegion (opsOf p6_25) [1,2,3,4],.code p6_26,.inBlock 1,.inLoop p6_4,.inBlock 0,.code p6_5]) (us:=[(64,.slice A25 t24.length c26)]) (by kernel_rfl) ?_
        refine r_load (c:=p6_25) (i:=1) (d:=(some 65)) (ty:=24) (t:=24) (x:=(.tmp 9)) (p:=⟨b78,0,none⟩) (v:=.agg (enc_api_Pick t72).toArray) (by kernel_rfl) (by kernel_rfl) (by kernel_rfl) (loads_agg (hS83.blk 0 rfl) (by kernel_rfl) (by kernel_rfl)) ?_
        refine r_lit (c:=p6_25) (i:=2) (d:=(some 66)) (ty:=22) (t:=22) (e:=24) (sz:=3) (n:=1) (parts:=#[(0,(.tmp 65))]) (vs:=[(0,.agg (enc_api_Pick t72).toArray)]) (z:=zeroOf Tryd.prog 24) (cs':=([t72] : List api_Pick).flatMap enc_api_Pick) hS83 (by kernel_rfl) (by kernel_rfl) (by kernel_rfl) (by kernel_rfl) (by kernel_rfl) (by decide) (by decide) (by kernel_rfl) rfl (Parts.cons (c:=enc_api_Pick t72) (by kernel_rfl) (len_api_Pick _) Parts.nil) rfl ?_
        intro b105 w106 hS107
        have hS108:=hS107.pick2
        obtain ⟨g109,hp110⟩:=ite_some hp103
        refine r_append (c:=p6_25) (i:=3) (d:=(some 67)) (ty:=22) (enc:=enc_api_Pick) (e:=24) (u:=24) (t:=22) (t2:=22) (sz:=3) (cp:=c26) (A:=A25) (bytes:=24) (xs:=t24) (ys:=([t72] : List api_Pick)) (s:=(.tmp 64)) (x:=(.tmp 66)) (xv:=.slice (some ⟨b105,0,none⟩) ([t72] : List api_Pick).length 1) (info:=infoOf Tryd.prog 24) (z:=zeroOf Tryd.prog 24) (ycs:=([t72] : List api_Pick).flatMap enc_api_Pick) hS108 (by kernel_rfl) (by kernel_rfl) (by kernel_rfl) (by kernel_rfl) (by kernel_rfl) (.inl (by kernel_rfl)) (by kernel_rfl) (by kernel_rfl) (by kernel_rfl) (by kernel_rfl) (by kernel_rfl) (by omega) len_api_Pick one_api_Pick (src_row (hS108.row 1 rfl) (by omega) len_api_Pick) rfl g109 (by omega) ?_
        intro A111 c112 w113 hS114
        refine sx_run 16 (todo':=[.inLoop p6_4,.inBlock 0,.code p6_5]) (us:=[(4,.slice A111 (t24 ++ ([t72] : List api_Pick)).length c112),(68,.int .i64 t29),(69,.int .i64 t64),(70,.int .i64 t30),(71,.int .i64 (IntKind.i64.wrap (t64 - t30))),(72,.int .i64 (IntKind.i64.wrap (t29 + (IntKind.i64.wrap (t64 - t30))))),(6,.int .i64 (IntKind.i64.wrap (t29 + (IntKind.i64.wrap (t64 - t30))))),(73,.int .i64 t64),(7,.int .i64 t64)]) (by kernel_rfl) ?_
        have hS116:=hS114.pick1
        have hS117:=hS116.drop
        have hS118:=hS117.pick1
        have hS119:=hS118.drop
        refine sx_run 1 (todo':=[.code p6_4,.inLoop p6_4,.inBlock 0,.code p6_5]) (us:=[]) (by kernel_rfl) ?_
        refine Runs.fill (m:=(mk 75 [(0,.string a0),(4,.slice A111 (t24 ++ ([t72] : List api_Pick)).length c112),(5,.int .i64 t28),(6,.int .i64 (IntKind.i64.wrap (t29 + (IntKind.i64.wrap (t64 - t30))))),(7,.int .i64 t64)])) (by kernel_rfl) ?_
        exact ih37 (t24 ++ ([t72] : List api_Pick)) (id t28) (IntKind.i64.wrap (t29 + (IntKind.i64.wrap (t64 - t30)))) t64 _ hp110 he35 _ A111 c112 _ hS119
      have L129 : ∀ (t120 : Int) (e124 : Int),script_Parse.l1 a0 t120 = some e124 → e124 = v61 → ∀ (l123 : List Value) (w121 : World) (hS122 : St w0 Z (xrow A25 c26 24 3 (t24.flatMap enc_api_Pick)::fs) w121),Runs Tryd.prog (fx 6) [.code p6_16,.inLoop p6_16,.inBlock 2,.code p6_17,.inBlock 1,.inLoop p6_4,.inBlock 0,.code p6_5] (fill (mk 75 [(0,.string a0),(4,.slice A25 t24.length c26),(5,.int .i64 t28),(6,.int .i64 t29),(7,.int .i64 t30),(8,.int .i64 t120)]) l123) w121 R:=by
       refine script_Parse.l1.partial_correctness a0 (fun t120 e124 => e124 = v61 → ∀ (l123 : List Value) (w121 : World) (hS122 : St w0 Z (xrow A25 c26 24 3 (t24.flatMap enc_api_Pick)::fs) w121),Runs Tryd.prog (fx 6) [.code p6_16,.inLoop p6_16,.inBlock 2,.code p6_17,.inBlock 1,.inLoop p6_4,.inBlock 0,.code p6_5] (fill (mk 75 [(0,.string a0),(4,.slice A25 t24.length c26),(5,.int .i64 t28),(6,.int .i64 t29),(7,.int .i64 t30),(8,.int .i64 t120)]) l123) w121 R) ?_
       intro rec128 ih127 t120 e124 hb126 he125 l123 w121 hS122
       refine sx_split 7 (todo':=[.inRegion (opsOf p6_27) [4,5,6,7,8,9,10],.code p6_28,.code p6_29,.inLoop p6_16,.inBlock 2,.code p6_17,.inBlock 1,.inLoop p6_4,.inBlock 0,.code p6_5]) (us:=[(35,.int .i64 t120),(36,.string a0),(37,.int .i64 (a0.size : Int))]) (d:=38) (t:=(decide (t120 < (a0.size : Int)))) (by kernel_rfl) (fun h130 => ?_) (fun h131 => ?_)
       ·skip
        have hp132:=ite_t hb126 h130
        refine sx_run 3 (todo':=[.inRegion (opsOf p6_27) [7,8,9,10],.code p6_28,.code p6_29,.inLoop p6_16,.inBlock 2,.code p6_17,.inBlock 1,.inLoop p6_4,.inBlock 0,.code p6_5]) (us:=[(39,.bool true),(40,.string a0),(41,.int .i64 t120)]) (by kernel_rfl) ?_
        obtain ⟨g133,hp134⟩:=ite_some hp132
        refine r_val (c:=p6_27) (i:=7) (d:=(some 42)) (ty:=5) (op:=.index 9 (.tmp 40) (.tmp 41)) (v:=.int .u8 (byt a0 t120)) (by kernel_rfl) (by kernel_rfl) (fun o ho _ => x_indexStr (kk:=.i64) (by kernel_rfl) (by kernel_rfl) (by kernel_rfl) g133.1 g133.2 ho) ?_
        obtain ⟨t135,hr136,hp137⟩:=bind_some' hp134
        refine r_call1 (c:=p6_27) (i:=8) (d:=(some 43)) (g:=14) (args:=#[.string (⟨#[32,9,10,13]⟩ : ByteArray),.int .u8 (byt a0 t120)]) (by kernel_rfl) (by kernel_rfl) (by kernel_rfl) (by kernel_rfl) (strings_IndexByte.ok (⟨#[32,9,10,13]⟩ : ByteArray) (byt a0 t120) hS122 hr136) ?_
        rintro _ w138 ⟨rfl,hS139⟩
        refine ⟨.int .i64 t135,rfl,?_⟩
        refine sx_split 1 (todo':=[.inRegion (opsOf p6_27) [10],.code p6_28,.code p6_29,.inLoop p6_16,.inBlock 2,.code p6_17,.inBlock 1,.inLoop p6_4,.inBlock 0,.code p6_5]) (us:=[]) (d:=44) (t:=(decide (t135 < 0))) (by kernel_rfl) (fun h140 => ?_) (fun h141 => ?_)
        ·skip
         have hp142:=ite_t hp137 h140
         refine sx_run 11 (todo':=[.inLoop p6_16,.inBlock 2,.code p6_17,.inBlock 1,.inLoop p6_4,.inBlock 0,.code p6_5]) (us:=[(45,.bool true),(46,.int .i64 t120),(47,.int .i64 (IntKind.i64.wrap (t120 + 1))),(8,.int .i64 (IntKind.i64.wrap (t120 + 1)))]) (by kernel_rfl) ?_
         refine sx_run 1 (todo':=[.code p6_16,.inLoop p6_16,.inBlock 2,.code p6_17,.inBlock 1,.inLoop p6_4,.inBlock 0,.code p6_5]) (us:=[]) (by kernel_rfl) ?_
         refine Runs.fill (m:=(mk 75 [(0,.string a0),(4,.slice A25 t24.length c26),(5,.int .i64 t28),(6,.int .i64 t29),(7,.int .i64 t30),(8,.int .i64 (IntKind.i64.wrap (t120 + 1)))])) (by kernel_rfl) ?_
         exact ih127 (IntKind.i64.wrap (t120 + 1)) _ hp142 he125 _ _ hS139
        ·skip
         have hp143:=ite_f hp137 h141
         refine sx_run 4 (todo':=[.code p6_17,.inBlock 1,.inLoop p6_4,.inBlock 0,.code p6_5]) (us:=[(45,.bool false)]) (by kernel_rfl) ?_
         refine Runs.fill (m:=(mk 75 [(0,.string a0),(4,.slice A25 t24.length c26),(5,.int .i64 t28),(6,.int .i64 t29),(7,.int .i64 t30),(8,.int .i64 t120)])) (by kernel_rfl) ?_
         exact J67 t120 ((Option.some.inj hp143).trans he125) _ _ hS139
       ·skip
        have hp144:=ite_f hb126 h131
        refine sx_run 10 (todo':=[.code p6_17,.inBlock 1,.inLoop p6_4,.inBlock 0,.code p6_5]) (us:=[(39,.bool false),(40,undef),(41,undef),(42,undef),(43,undef),(44,undef),(45,.bool false)]) (by kernel_rfl) ?_
        refine Runs.fill (m:=(mk 75 [(0,.string a0),(4,.slice A25 t24.length c26),(5,.int .i64 t28),(6,.int .i64 t29),(7,.int .i64 t30),(8,.int .i64 t120)])) (by kernel_rfl) ?_
        exact J67 t120 ((Option.some.inj hp144).trans he125) _ _ hS122
      refine Runs.fill (m:=(mk 75 [(0,.string a0),(4,.slice A25 t24.length c26),(5,.int .i64 t28),(6,.int .i64 t29),(7,.int .i64 t30),(8,.int .i64 t30)])) (by kernel_rfl) ?_
      exact L129 t30 _ hv62 rfl _ _ hS50
    ·skip
     have hp145:=ite_f hb36 h42
     refine sx_run 3 (todo':=[.code p6_5]) (us:=[]) (by kernel_rfl) ?_
     refine Runs.fill (m:=(mk 75 [(4,.slice A25 t24.length c26)])) (by kernel_rfl) ?_
     exact J19 t24 ((Option.some.inj hp145).trans he35) _ A25 c26 _ hS32
   have hS147:=hS0.nilrow none 24 3
   refine Runs.fill (m:=(mk 75 [(0,.string a0),(4,.slice none 0 0),(5,.int .i64 1),(6,.int .i64 1),(7,.int .i64 0)])) (by kernel_rfl) ?_
   exact L39 [] 1 1 0 _ hv10 rfl _ none 0 _ hS147

noncomputable def cd16 (p : List Nat) : Code:=sub (bodyOf Tryd.f16) p
noncomputable abbrev p16_0 : Code:=cd16 [1,0]
noncomputable abbrev p16_1 : Code:=cd16 [1,1]
def weirref15_blank.f (a0 : Int) : Option Bool :=
  (if (a0 == 32) = true then some (true) else (if (a0 == 9) = true then some (true) else (if (a0 == 10) = true then some (true) else (if (a0 == 13) = true then some (true) else some (false)))))
set_option maxHeartbeats 16000000 in
theorem weirref15_blank.ok (a0 : Int) {w0 : World} {Z : Zm} {fs : List XObj} {w : World} (hS0 : St w0 Z (fs) w) {q0 : Bool} (hp0 : weirref15_blank.f a0 = some q0) :
    Calls Tryd.prog 16 #[.int .u8 a0] w (fun e w' => e = .returned (.bool q0) ∧ St w0 Z (fs) w'):=by
  refine calls_abs ?_; intro R hR
  unfold weirref15_blank.f at hp0
  refine calls_of_runs (fn:=Tryd.f16) (c:=cd16 []) Tryd.func16 (by kernel_rfl) (al:=[.int .u8 a0]) rfl (n:=16) rfl ?_
  refine sx_split 8 (todo':=[.inRegion (opsOf p16_0) [2,3,4,5,6,7,8,9,10,11,12,13,14],.code p16_1]) (us:=[(2,.bool false),(3,.int .u8 a0)]) (d:=4) (t:=(a0 == 32)) (by kernel_rfl) (fun h1 => ?_) (fun h2 => ?_)
  ·skip
   have hp3:=ite_t hp0 h1
   refine sx_run 14 (todo':=[.code p16_1]) (us:=[(5,.bool true),(6,undef),(7,undef),(8,.bool true),(9,.bool true),(10,undef),(11,undef),(12,.bool true),(13,.bool true),(14,undef),(15,undef),(16,.bool true),(2,.bool true)]) (by kernel_rfl) ?_
   refine runs_ret (fn:=Tryd.f16) (v:=.bool true) Tryd.func16 (by kernel_rfl) ?_
   have hr4:=(Option.some.inj hp3)
   cases hr4
   exact hR _ _ ⟨rfl,hS0⟩
  ·skip
   have hp5:=ite_f hp0 h2
   refine sx_split 3 (todo':=[.inRegion (opsOf p16_0) [5,6,7,8,9,10,11,12,13,14],.code p16_1]) (us:=[(5,.bool false),(6,.int .u8 a0)]) (d:=7) (t:=(a0 == 9)) (by kernel_rfl) (fun h6 => ?_) (fun h7 => ?_)
   ·skip
    have hp8:=ite_t hp5 h6
    refine sx_run 11 (todo':=[.code p16_1]) (us:=[(8,.bool true),(9,.bool true),(10,undef),(11,undef),(12,.bool true),(13,.bool true),(14,undef),(15,undef),(16,.bool true),(2,.bool true)]) (by kernel_rfl) ?_
    refine runs_ret (fn:=Tryd.f16) (v:=.bool true) Tryd.func16 (by kernel_rfl) ?_
    have hr9:=(Option.some.inj hp8)
    cases hr9
    exact hR _ _ ⟨rfl,hS0⟩
   ·skip
    have hp10:=ite_f hp5 h7
    refine sx_split 4 (todo':=[.inRegion (opsOf p16_0) [9,10,11,12,13,14],.code p16_1]) (us:=[(8,.bool false),(9,.bool false),(10,.int .u8 a0)]) (d:=11) (t:=(a0 == 10)) (by kernel_rfl) (fun h11 => ?_) (fun h12 => ?_)
    ·skip
     have hp13:=ite_t hp10 h11
     refine sx_run 7 (todo':=[.code p16_1]) (us:=[(12,.bool true),(13,.bool true),(14,undef),(15,undef),(16,.bool true),(2,.bool true)]) (by kernel_rfl) ?_
     refine runs_ret (fn:=Tryd.f16) (v:=.bool true) Tryd.func16 (by kernel_rfl) ?_
     have hr14:=(Option.some.inj hp13)
     cases hr14
     exact hR _ _ ⟨rfl,hS0⟩
    ·skip
     have hp15:=ite_f hp10 h12
     refine sx_split 4 (todo':=[.inRegion (opsOf p16_0) [13,14],.code p16_1]) (us:=[(12,.bool false),(13,.bool false),(14,.int .u8 a0)]) (d:=15) (t:=(a0 == 13)) (by kernel_rfl) (fun h16 => ?_) (fun h17 => ?_)
     ·skip
      have hp18:=ite_t hp15 h16
      refine sx_run 3 (todo':=[.code p16_1]) (us:=[(16,.bool true),(2,.bool true)]) (by kernel_rfl) ?_
      refine runs_ret (fn:=Tryd.f16) (v:=.bool true) Tryd.func16 (by kernel_rfl) ?_
      have hr19:=(Option.some.inj hp18)
      cases hr19
      exact hR _ _ ⟨rfl,hS0⟩
     ·skip
      have hp20:=ite_f hp15 h17
      refine sx_run 3 (todo':=[.code p16_1]) (us:=[(16,.bool false),(2,.bool false)]) (by kernel_rfl) ?_
      refine runs_ret (fn:=Tryd.f16) (v:=.bool false) Tryd.func16 (by kernel_rfl) ?_
      have hr21:=(Option.some.inj hp20)
      cases hr21
      exact hR _ _ ⟨rfl,hS0⟩

noncomputable def cd28 (p : List Nat) : Code:=sub (bodyOf Tryd.f28) p
noncomputable abbrev p28_0 : Code:=cd28 [1,1,0,0,0]
noncomputable abbrev p28_1 : Code:=cd28 [1,1,1]
noncomputable abbrev p28_2 : Code:=cd28 [1,1,1,0,0]
noncomputable abbrev p28_3 : Code:=cd28 [1,1,1,0,1]
noncomputable abbrev p28_4 : Code:=cd28 [1,1,1,1]
noncomputable abbrev p28_5 : Code:=cd28 [1,1,1,0,1,0,1]
noncomputable abbrev p28_6 : Code:=cd28 [1,1,1,1,1]
noncomputable abbrev p28_7 : Code:=cd28 [1,1,0,0,0,0,0]
noncomputable abbrev p28_8 : Code:=cd28 [1,1,0,0,0,0,1]
noncomputable abbrev p28_9 : Code:=cd28 [1,1,0,0,0,1]
noncomputable abbrev p28_10 : Code:=cd28 [1,1,0,0,0,1,0,0]
noncomputable abbrev p28_11 : Code:=cd28 [1,1,0,0,0,1,0,1]
def weirref15_number.l0 (a0 : ByteArray) (a1 : Int) (t34 : Int) (t35 : Int) : Option (Int × Int) :=
  (if (decide (t35 < (a0.size : Int))) = true then (if 0 ≤ t35 ∧ t35 < (a0.size : Int) then (if (decide ((byt a0 t35) ≥ 48)) = true then (if 0 ≤ t35 ∧ t35 < (a0.size : Int) then (if (decide ((byt a0 t35) ≤ 57)) = true then (if (decide ((IntKind.i64.wrap (t35 - a1)) < 5)) = true then (if 0 ≤ t35 ∧ t35 < (a0.size : Int) then (weirref15_number.l0 a0 a1 (IntKind.i64.wrap ((IntKind.i64.wrap (10 * t34)) + (IntKind.i64.wrap (IntKind.u8.wrap ((byt a0 t35) - 48))))) (IntKind.i64.wrap (t35 + 1))) else none) else some ((t34,t35))) else some ((t34,t35))) else none) else some ((t34,t35))) else none) else some ((t34,t35)))
 partial_fixpoint
def weirref15_number.f (a0 : ByteArray) (a1 : Int) : Option (Int × Int) :=
  (weirref15_number.l0 a0 a1 0 a1 >>= (fun (t4,t5) => (if (t5 == a1) = true then some (((-1),a1)) else (if (decide ((IntKind.i64.wrap (t5 - a1)) > 4)) = true then some (((-1),a1)) else (if (decide ((IntKind.i64.wrap (t5 - a1)) > 1)) = true then (if 0 ≤ a1 ∧ a1 < (a0.size : Int) then (if ((byt a0 a1) == 48) = true then some (((-1),a1)) else some ((t4,t5))) else none) else some ((t4,t5)))))))
set_option maxHeartbeats 16000000 in
theorem weirref15_number.ok (a0 : ByteArray) (a1 : Int) {w0 : World} {Z : Zm} {fs : List XObj} {w : World} (hS0 : St w0 Z (fs) w) {q0 : Int} {q1 : Int} (hp0 : weirref15_number.f a0 a1 = some (q0,q1)) :
    Calls Tryd.prog 28 #[.string a0,.int .i64 a1] w (fun e w' => e = .returned (.tuple #[.int .i64 q0,.int .i64 q1]) ∧ St w0 Z (fs) w'):=by
  refine calls_abs ?_; intro R hR
  unfold weirref15_number.f at hp0
  refine calls_of_runs (fn:=Tryd.f28) (c:=cd28 []) Tryd.func28 (by kernel_rfl) (al:=[.string a0,.int .i64 a1]) rfl (n:=63) rfl ?_
  refine sx_run 14 (todo':=[.code p28_0,.inLoop p28_0,.inBlock 0,.code p28_1]) (us:=[(4,.int .i64 0),(5,.int .i64 0),(8,.int .i64 a1),(6,.int .i64 0),(7,.int .i64 a1)]) (by kernel_rfl) ?_
  obtain ⟨v1,hv2,hp3⟩:=bind_some' hp0
  have J8 : ∀ (t4 : Int) (t5 : Int) (he10 : (t4,t5) = v1) (l9 : List Value) (w6 : World) (hS7 : St w0 Z (fs) w6),Runs Tryd.prog (fx 28) [.code p28_1] (fill (mk 65 [(0,.string a0),(1,.int .i64 a1),(6,.int .i64 t4),(7,.int .i64 t5)]) l9) w6 R:=by
   intro t4 t5 he10 l9 w6 hS7
   subst he10
   try dsimp only at hp3
   refine sx_split 6 (todo':=[.inRegion (opsOf p28_2) [3,4,5,6,7,8,9,10,11,12,13,14,15,16,17,18,19,20],.code p28_3,.code p28_4]) (us:=[(41,.int .i64 t5),(42,.int .i64 a1)]) (d:=43) (t:=(t5 == a1)) (by kernel_rfl) (fun h11 => ?_) (fun h12 => ?_)
   ·skip
    have hp13:=ite_t hp3 h11
    refine sx_run 26 (todo':=[.code p28_5,.code p28_4]) (us:=[(44,.bool true),(45,undef),(46,undef),(47,undef),(48,undef),(49,.bool true),(50,.bool true),(51,undef),(52,undef),(53,undef),(54,undef),(55,undef),(56,undef),(57,undef),(58,undef),(59,undef),(60,undef),(61,.bool true),(62,.int .i64 a1),(4,.int .i64 (-1)),(5,.int .i64 a1)]) (by kernel_rfl) ?_
    refine runs_ret (fn:=Tryd.f28) (v:=.tuple #[.int .i64 (-1),.int .i64 a1]) Tryd.func28 (by kernel_rfl) ?_
    have hr14:=(Option.some.inj hp13)
    cases hr14
    exact hR _ _ ⟨rfl,hS7⟩
   ·skip
    have hp15:=ite_f hp3 h12
    refine sx_split 5 (todo':=[.inRegion (opsOf p28_2) [8,9,10,11,12,13,14,15,16,17,18,19,20],.code p28_3,.code p28_4]) (us:=[(44,.bool false),(45,.int .i64 t5),(46,.int .i64 a1),(47,.int .i64 (IntKind.i64.wrap (t5 - a1)))]) (d:=48) (t:=(decide ((IntKind.i64.wrap (t5 - a1)) > 4))) (by kernel_rfl) (fun h16 => ?_) (fun h17 => ?_)
    ·skip
     have hp18:=ite_t hp15 h16
     refine sx_run 21 (todo':=[.code p28_5,.code p28_4]) (us:=[(49,.bool true),(50,.bool true),(51,undef),(52,undef),(53,undef),(54,undef),(55,undef),(56,undef),(57,undef),(58,undef),(59,undef),(60,undef),(61,.bool true),(62,.int .i64 a1),(4,.int .i64 (-1)),(5,.int .i64 a1)]) (by kernel_rfl) ?_
     refine runs_ret (fn:=Tryd.f28) (v:=.tuple #[.int .i64 (-1),.int .i64 a1]) Tryd.func28 (by kernel_rfl) ?_
     have hr19:=(Option.some.inj hp18)
     cases hr19
     exact hR _ _ ⟨rfl,hS7⟩
    ·skip
     have hp20:=ite_f hp15 h17
     refine sx_split 6 (todo':=[.inRegion (opsOf p28_2) [14,15,16,17,18,19,20],.code p28_3,.code p28_4]) (us:=[(49,.bool false),(50,.bool false),(51,.int .i64 t5),(52,.int .i64 a1),(53,.int .i64 (IntKind.i64.wrap (t5 - a1)))]) (d:=54) (t:=(decide ((IntKind.i64.wrap (t5 - a1)) > 1))) (by kernel_rfl) (fun h21 => ?_) (fun h22 => ?_)
     ·skip
      have hp23:=ite_t hp20 h21
      refine sx_run 3 (todo':=[.inRegion (opsOf p28_2) [17,18,19,20],.code p28_3,.code p28_4]) (us:=[(55,.bool true),(56,.string a0),(57,.int .i64 a1)]) (by kernel_rfl) ?_
      obtain ⟨g24,hp25⟩:=ite_some hp23
      refine r_val (c:=p28_2) (i:=17) (d:=(some 58)) (ty:=5) (op:=.index 9 (.tmp 56) (.tmp 57)) (v:=.int .u8 (byt a0 a1)) (by kernel_rfl) (by kernel_rfl) (fun o ho _ => x_indexStr (kk:=.i64) (by kernel_rfl) (by kernel_rfl) (by kernel_rfl) g24.1 g24.2 ho) ?_
      refine sx_split 1 (todo':=[.inRegion (opsOf p28_2) [19,20],.code p28_3,.code p28_4]) (us:=[]) (d:=59) (t:=((byt a0 a1) == 48)) (by kernel_rfl) (fun h26 => ?_) (fun h27 => ?_)
      ·skip
       have hp28:=ite_t hp25 h26
       refine sx_run 10 (todo':=[.code p28_5,.code p28_4]) (us:=[(60,.bool true),(61,.bool true),(62,.int .i64 a1),(4,.int .i64 (-1)),(5,.int .i64 a1)]) (by kernel_rfl) ?_
       refine runs_ret (fn:=Tryd.f28) (v:=.tuple #[.int .i64 (-1),.int .i64 a1]) Tryd.func28 (by kernel_rfl) ?_
       have hr29:=(Option.some.inj hp28)
       cases hr29
       exact hR _ _ ⟨rfl,hS7⟩
      ·skip
       have hp30:=ite_f hp25 h27
       refine sx_run 12 (todo':=[.code p28_6]) (us:=[(60,.bool false),(61,.bool false),(63,.int .i64 t4),(64,.int .i64 t5),(4,.int .i64 t4),(5,.int .i64 t5)]) (by kernel_rfl) ?_
       refine runs_ret (fn:=Tryd.f28) (v:=.tuple #[.int .i64 t4,.int .i64 t5]) Tryd.func28 (by kernel_rfl) ?_
       have hr31:=(Option.some.inj hp30)
       cases hr31
       exact hR _ _ ⟨rfl,hS7⟩
     ·skip
      have hp32:=ite_f hp20 h22
      refine sx_run 17 (todo':=[.code p28_6]) (us:=[(55,.bool false),(56,undef),(57,undef),(58,undef),(59,undef),(60,.bool false),(61,.bool false),(63,.int .i64 t4),(64,.int .i64 t5),(4,.int .i64 t4),(5,.int .i64 t5)]) (by kernel_rfl) ?_
      refine runs_ret (fn:=Tryd.f28) (v:=.tuple #[.int .i64 t4,.int .i64 t5]) Tryd.func28 (by kernel_rfl) ?_
      have hr33:=(Option.some.inj hp32)
      cases hr33
      exact hR _ _ ⟨rfl,hS7⟩
  have L44 : ∀ (t34 : Int) (t35 : Int) (e39 : (Int × Int)),weirref15_number.l0 a0 a1 t34 t35 = some e39 → e39 = v1 → ∀ (l38 : List Value) (w36 : World) (hS37 : St w0 Z (fs) w36),Runs Tryd.prog (fx 28) [.code p28_0,.inLoop p28_0,.inBlock 0,.code p28_1] (fill (mk 65 [(0,.string a0),(1,.int .i64 a1),(6,.int .i64 t34),(7,.int .i64 t35)]) l38) w36 R:=by
   refine weirref15_number.l0.partial_correctness a0 a1 (fun t34 t35 e39 => e39 = v1 → ∀ (l38 : List Value) (w36 : World) (hS37 : St w0 Z (fs) w36),Runs Tryd.prog (fx 28) [.code p28_0,.inLoop p28_0,.inBlock 0,.code p28_1] (fill (mk 65 [(0,.string a0),(1,.int .i64 a1),(6,.int .i64 t34),(7,.int .i64 t35)]) l38) w36 R) ?_
   intro rec43 ih42 t34 t35 e39 hb41 he40 l38 w36 hS37
   refine sx_split 7 (todo':=[.inRegion (opsOf p28_7) [4,5,6,7,8,9,10,11,12,13,14,15,16,17,18,19,20,21],.code p28_8,.code p28_9,.inLoop p28_0,.inBlock 0,.code p28_1]) (us:=[(9,.int .i64 t35),(10,.string a0),(11,.int .i64 (a0.size : Int))]) (d:=12) (t:=(decide (t35 < (a0.size : Int)))) (by kernel_rfl) (fun h45 => ?_) (fun h46 => ?_)
   ·skip
    have hp47:=ite_t hb41 h45
    refine sx_run 3 (todo':=[.inRegion (opsOf p28_7) [7,8,9,10,11,12,13,14,15,16,17,18,19,20,21],.code p28_8,.code p28_9,.inLoop p28_0,.inBlock 0,.code p28_1]) (us:=[(13,.bool true),(14,.string a0),(15,.int .i64 t35)]) (by kernel_rfl) ?_
    obtain ⟨g48,hp49⟩:=ite_some hp47
    refine r_val (c:=p28_7) (i:=7) (d:=(some 16)) (ty:=5) (op:=.index 9 (.tmp 14) (.tmp 15)) (v:=.int .u8 (byt a0 t35)) (by kernel_rfl) (by kernel_rfl) (fun o ho _ => x_indexStr (kk:=.i64) (by kernel_rfl) (by kernel_rfl) (by kernel_rfl) g48.1 g48.2 ho) ?_
    refine sx_split 1 (todo':=[.inRegion (opsOf p28_7) [9,10,11,12,13,14,15,16,17,18,19,20,21],.code p28_8,.code p28_9,.inLoop p28_0,.inBlock 0,.code p28_1]) (us:=[]) (d:=17) (t:=(decide ((byt a0 t35) ≥ 48))) (by kernel_rfl) (fun h50 => ?_) (fun h51 => ?_)
    ·skip
     have hp52:=ite_t hp49 h50
     refine sx_run 4 (todo':=[.inRegion (opsOf p28_7) [13,14,15,16,17,18,19,20,21],.code p28_8,.code p28_9,.inLoop p28_0,.inBlock 0,.code p28_1]) (us:=[(18,.bool true),(19,.bool true),(20,.string a0),(21,.int .i64 t35)]) (by kernel_rfl) ?_
     obtain ⟨g53,hp54⟩:=ite_some hp52
     refine r_val (c:=p28_7) (i:=13) (d:=(some 22)) (ty:=5) (op:=.index 9 (.tmp 20) (.tmp 21)) (v:=.int .u8 (byt a0 t35)) (by kernel_rfl) (by kernel_rfl) (fun o ho _ => x_indexStr (kk:=.i64) (by kernel_rfl) (by kernel_rfl) (by kernel_rfl) g53.1 g53.2 ho) ?_
     refine sx_split 1 (todo':=[.inRegion (opsOf p28_7) [15,16,17,18,19,20,21],.code p28_8,.code p28_9,.inLoop p28_0,.inBlock 0,.code p28_1]) (us:=[]) (d:=23) (t:=(decide ((byt a0 t35) ≤ 57))) (by kernel_rfl) (fun h55 => ?_) (fun h56 => ?_)
     ·skip
      have hp57:=ite_t hp54 h55
      refine sx_split 6 (todo':=[.inRegion (opsOf p28_7) [21],.code p28_8,.code p28_9,.inLoop p28_0,.inBlock 0,.code p28_1]) (us:=[(24,.bool true),(25,.bool true),(26,.int .i64 t35),(27,.int .i64 a1),(28,.int .i64 (IntKind.i64.wrap (t35 - a1)))]) (d:=29) (t:=(decide ((IntKind.i64.wrap (t35 - a1)) < 5))) (by kernel_rfl) (fun h58 => ?_) (fun h59 => ?_)
      ·skip
       have hp60:=ite_t hp57 h58
       refine sx_run 11 (todo':=[.inRegion (opsOf p28_10) [4,5,6,7,8],.code p28_11,.inBlock 1,.inLoop p28_0,.inBlock 0,.code p28_1]) (us:=[(30,.bool true),(31,.int .i64 t34),(32,.int .i64 (IntKind.i64.wrap (10 * t34))),(33,.string a0),(34,.int .i64 t35)]) (by kernel_rfl) ?_
       obtain ⟨g61,hp62⟩:=ite_some hp60
       refine r_val (c:=p28_10) (i:=4) (d:=(some 35)) (ty:=5) (op:=.index 9 (.tmp 33) (.tmp 34)) (v:=.int .u8 (byt a0 t35)) (by kernel_rfl) (by kernel_rfl) (fun o ho _ => x_indexStr (kk:=.i64) (by kernel_rfl) (by kernel_rfl) (by kernel_rfl) g61.1 g61.2 ho) ?_
       refine sx_run 11 (todo':=[.inLoop p28_0,.inBlock 0,.code p28_1]) (us:=[(36,.int .u8 (IntKind.u8.wrap ((byt a0 t35) - 48))),(37,.int .i64 (IntKind.i64.wrap (IntKind.u8.wrap ((byt a0 t35) - 48)))),(38,.int .i64 (IntKind.i64.wrap ((IntKind.i64.wrap (10 * t34)) + (IntKind.i64.wrap (IntKind.u8.wrap ((byt a0 t35) - 48)))))),(6,.int .i64 (IntKind.i64.wrap ((IntKind.i64.wrap (10 * t34)) + (IntKind.i64.wrap (IntKind.u8.wrap ((byt a0 t35) - 48)))))),(39,.int .i64 t35),(40,.int .i64 (IntKind.i64.wrap (t35 + 1))),(7,.int .i64 (IntKind.i64.wrap (t35 + 1)))]) (by kernel_rfl) ?_
       refine sx_run 1 (todo':=[.code p28_0,.inLoop p28_0,.inBlock 0,.code p28_1]) (us:=[]) (by kernel_rfl) ?_
       refine Runs.fill (m:=(mk 65 [(0,.string a0),(1,.int .i64 a1),(6,.int .i64 (IntKind.i64.wrap ((IntKind.i64.wrap (10 * t34)) + (IntKind.i64.wrap (IntKind.u8.wrap ((byt a0 t35) - 48)))))),(7,.int .i64 (IntKind.i64.wrap (t35 + 1)))])) (by kernel_rfl) ?_
       exact ih42 (IntKind.i64.wrap ((IntKind.i64.wrap (10 * t34)) + (IntKind.i64.wrap (IntKind.u8.wrap ((byt a0 t35) - 48))))) (IntKind.i64.wrap (t35 + 1)) _ hp62 he40 _ _ hS37
      ·skip
       have hp63:=ite_f hp57 h59
       refine sx_run 4 (todo':=[.code p28_1]) (us:=[(30,.bool false)]) (by kernel_rfl) ?_
       refine Runs.fill (m:=(mk 65 [(0,.string a0),(1,.int .i64 a1),(6,.int .i64 t34),(7,.int .i64 t35)])) (by kernel_rfl) ?_
       exact J8 t34 t35 ((Option.some.inj hp63).trans he40) _ _ hS37
     ·skip
      have hp64:=ite_f hp54 h56
      refine sx_run 10 (todo':=[.code p28_1]) (us:=[(24,.bool false),(25,.bool false),(26,undef),(27,undef),(28,undef),(29,undef),(30,.bool false)]) (by kernel_rfl) ?_
      refine Runs.fill (m:=(mk 65 [(0,.string a0),(1,.int .i64 a1),(6,.int .i64 t34),(7,.int .i64 t35)])) (by kernel_rfl) ?_
      exact J8 t34 t35 ((Option.some.inj hp64).trans he40) _ _ hS37
    ·skip
     have hp65:=ite_f hp49 h51
     refine sx_run 16 (todo':=[.code p28_1]) (us:=[(18,.bool false),(19,.bool false),(20,undef),(21,undef),(22,undef),(23,undef),(24,.bool false),(25,.bool false),(26,undef),(27,undef),(28,undef),(29,undef),(30,.bool false)]) (by kernel_rfl) ?_
     refine Runs.fill (m:=(mk 65 [(0,.string a0),(1,.int .i64 a1),(6,.int .i64 t34),(7,.int .i64 t35)])) (by kernel_rfl) ?_
     exact J8 t34 t35 ((Option.some.inj hp65).trans he40) _ _ hS37
   ·skip
    have hp66:=ite_f hb41 h46
    refine sx_run 21 (todo':=[.code p28_1]) (us:=[(13,.bool false),(14,undef),(15,undef),(16,undef),(17,undef),(18,.bool false),(19,.bool false),(20,undef),(21,undef),(22,undef),(23,undef),(24,.bool false),(25,.bool false),(26,undef),(27,undef),(28,undef),(29,undef),(30,.bool false)]) (by kernel_rfl) ?_
    refine Runs.fill (m:=(mk 65 [(0,.string a0),(1,.int .i64 a1),(6,.int .i64 t34),(7,.int .i64 t35)])) (by kernel_rfl) ?_
    exact J8 t34 t35 ((Option.some.inj hp66).trans he40) _ _ hS37
  refine Runs.fill (m:=(mk 65 [(0,.string a0),(1,.int .i64 a1),(6,.int .i64 0),(7,.int .i64 a1)])) (by kernel_rfl) ?_
  exact L44 0 a1 _ hv2 rfl _ _ hS0

noncomputable def cd17 (p : List Nat) : Code:=sub (bodyOf Tryd.f17) p
noncomputable abbrev p17_0 : Code:=cd17 [0]
noncomputable abbrev p17_1 : Code:=cd17 [1]
noncomputable abbrev p17_2 : Code:=cd17 [1,0]
noncomputable abbrev p17_3 : Code:=cd17 [1,1]
noncomputable abbrev p17_4 : Code:=cd17 [1,1,0,0]
noncomputable abbrev p17_5 : Code:=cd17 [1,1,0,1]
noncomputable abbrev p17_6 : Code:=cd17 [1,1,1]
noncomputable abbrev p17_7 : Code:=cd17 [1,1,0,1,0,0]
noncomputable abbrev p17_8 : Code:=cd17 [1,1,0,1,0,1]
noncomputable abbrev p17_9 : Code:=cd17 [1,1,1,0]
noncomputable abbrev p17_10 : Code:=cd17 [1,1,1,1]
noncomputable abbrev p17_11 : Code:=cd17 [1,1,1,1,0,0]
noncomputable abbrev p17_12 : Code:=cd17 [1,1,1,1,0,1]
noncomputable abbrev p17_13 : Code:=cd17 [1,1,1,1,1]
noncomputable abbrev p17_14 : Code:=cd17 [1,1,1,1,1,1,1]
noncomputable abbrev p17_15 : Code:=cd17 [1,1,1,1,1,1,1,0]
noncomputable abbrev p17_16 : Code:=cd17 [1,1,1,1,1,1,1,1]
noncomputable abbrev p17_17 : Code:=cd17 [1,1,1,1,1,1,0,0]
noncomputable abbrev p17_18 : Code:=cd17 [1,1,1,1,1,1,0,1]
noncomputable abbrev p17_19 : Code:=cd17 [1,1,1,1,1,1,0,1,0,0]
noncomputable abbrev p17_20 : Code:=cd17 [1,1,1,1,1,1,0,1,0,1]
noncomputable abbrev p17_21 : Code:=cd17 [1,1,1,1,1,1,0,1,0,1,0,0]
noncomputable abbrev p17_22 : Code:=cd17 [1,1,1,1,1,1,0,1,0,1,0,1]
noncomputable abbrev p17_23 : Code:=cd17 [1,1,1,1,1,1,0,1,0,1,1]
noncomputable abbrev p17_24 : Code:=cd17 [1,1,1,1,1,1,0,1,0,1,0,1,0,0]
noncomputable abbrev p17_25 : Code:=cd17 [1,1,1,1,1,1,0,1,0,1,0,1,0,1]
noncomputable abbrev p17_26 : Code:=cd17 [1,1,1,1,1,1,0,1,0,1,1,0]
noncomputable abbrev p17_27 : Code:=cd17 [1,1,1,1,1,1,0,1,0,1,1,1]
noncomputable abbrev p17_28 : Code:=cd17 [1,1,1,1,0,1,0]
noncomputable abbrev p17_29 : Code:=cd17 [1,1,1,1,0,1,1,0]
noncomputable abbrev p17_30 : Code:=cd17 [1,1,1,1,0,1,1,1]
noncomputable abbrev p17_31 : Code:=cd17 [1,1,1,1,0,1,1,1,0,0]
noncomputable abbrev p17_32 : Code:=cd17 [1,1,1,1,0,1,1,1,0,1]
def weirref15_word.f (a0 : ByteArray) : Option (api_Pick × Bool) :=
  (weirref15_number.f a0 0 >>= (fun (t5,t6) => (if (decide (t5 < 0)) = true then some (((⟨0,0,0⟩ : api_Pick),false)) else (if (decide ((IntKind.i64.wrap (t6 + 1)) ≥ (a0.size : Int))) = true then some (((⟨0,0,0⟩ : api_Pick),false)) else (if 0 ≤ t6 ∧ t6 < (a0.size : Int) then (if ((byt a0 t6) != 58) = true then some (((⟨0,0,0⟩ : api_Pick),false)) else (if 0 ≤ (IntKind.i64.wrap (t6 + 1)) ∧ (IntKind.i64.wrap (t6 + 1)) < (a0.size : Int) then (((if ((byt a0 (IntKind.i64.wrap (t6 + 1))) == 102) = true then some (.inl (⟨t5,2,0⟩ : api_Pick)) else (if 0 ≤ (IntKind.i64.wrap (t6 + 1)) ∧ (IntKind.i64.wrap (t6 + 1)) < (a0.size : Int) then (if ((byt a0 (IntKind.i64.wrap (t6 + 1))) != 115) = true then some (.inr (((⟨0,0,0⟩ : api_Pick),false))) else some (.inl (⟨t5,1,0⟩ : api_Pick))) else none)) : Option (Sum api_Pick (api_Pick × Bool))) >>= (fun | .inl t48 => (((if (decide ((IntKind.i64.wrap (t6 + 2)) < (a0.size : Int))) = true then (if 0 ≤ (IntKind.i64.wrap (t6 + 2)) ∧ (IntKind.i64.wrap (t6 + 2)) < (a0.size : Int) then (if ((byt a0 (IntKind.i64.wrap (t6 + 2))) == 58) = true then (if (t48.Kind == 2) = true then (weirref15_number.f a0 (IntKind.i64.wrap ((IntKind.i64.wrap (t6 + 2)) + 1)) >>= (fun (t91,t92) => (if (decide (t91 < 1)) = true then some (.inr (((⟨0,0,0⟩ : api_Pick),false))) else some (.inl (t92,(⟨t48.Thread,t48.Kind,t91⟩ : api_Pick)))))) else some (.inl ((IntKind.i64.wrap (t6 + 2)),t48))) else some (.inl ((IntKind.i64.wrap (t6 + 2)),t48))) else none) else some (.inl ((IntKind.i64.wrap (t6 + 2)),t48))) : Option (Sum (Int × api_Pick) (api_Pick × Bool))) >>= (fun | .inl (t58,t59) => (if (t58 == (a0.size : Int)) = true then some ((t59,true)) else some ((t59,false))) | .inr e => some e)) | .inr e => some e)) else none)) else none)))))
set_option maxHeartbeats 16000000 in
theorem weirref15_word.ok (a0 : ByteArray) {w0 : World} {Z : Zm} {fs : List XObj} {w : World} (hS0 : St w0 Z (fs) w) {q0 : api_Pick} {q1 : Bool} (hp0 : weirref15_word.f a0 = some (q0,q1)) :
    Calls Tryd.prog 17 #[.string a0] w (fun e w' => e = .returned (.tuple #[.agg (enc_api_Pick q0).toArray,.bool q1]) ∧ St w0 Z (fs) w'):=by
  refine calls_abs ?_; intro R hR
  unfold weirref15_word.f at hp0
  refine calls_of_runs (fn:=Tryd.f17) (c:=cd17 []) Tryd.func17 (by kernel_rfl) (al:=[.string a0]) rfl (n:=78) rfl ?_
  refine sx_run 2 (todo':=[.inRegion (opsOf p17_0) [0,1],.code p17_1]) (us:=[]) (by kernel_rfl) ?_
  refine r_alloc (c:=p17_0) (i:=0) (d:=(some 2)) (ty:=0) (z:=.agg (enc_api_Pick (⟨0,0,0⟩ : api_Pick)).toArray) (t:=24) (cs:=enc_api_Pick (⟨0,0,0⟩ : api_Pick)) hS0 (by kernel_rfl) (by kernel_rfl) (by kernel_rfl) (by kernel_rfl) ?_
  intro b1 w2 hS3
  refine sx_run 5 (todo':=[.inRegion (opsOf p17_2) [1,2,3,4,5,6],.code p17_3]) (us:=[(3,.bool false),(10,.string a0)]) (by kernel_rfl) ?_
  obtain ⟨⟨t5,t6⟩,hr7,hp8⟩:=bind_some' hp0
  try dsimp only at hp8
  refine r_call1 (c:=p17_2) (i:=1) (d:=(some 11)) (g:=28) (args:=#[.string a0,.int .i64 0]) (by kernel_rfl) (by kernel_rfl) (by kernel_rfl) (by kernel_rfl) (weirref15_number.ok a0 0 hS3 hr7) ?_
  rintro _ w9 ⟨rfl,hS10⟩
  refine ⟨.tuple #[.int .i64 t5,.int .i64 t6],rfl,?_⟩
  refine sx_split 11 (todo':=[.inRegion (opsOf p17_4) [2,3,4,5,6,7,8,9,10,11,12,13,14],.code p17_5,.code p17_6]) (us:=[(9,.tuple #[.int .i64 t5,.int .i64 t6]),(12,.int .i64 t5),(13,.int .i64 t6),(4,.int .i64 t5),(5,.int .i64 t6),(14,.int .i64 t5)]) (d:=15) (t:=(decide (t5 < 0))) (by kernel_rfl) (fun h11 => ?_) (fun h12 => ?_)
  ·skip
   have hp13:=ite_t hp8 h11
   refine sx_run 18 (todo':=[.inRegion (opsOf p17_7) [1,2],.code p17_8,.code p17_6]) (us:=[(16,.bool true),(17,undef),(18,undef),(19,undef),(20,undef),(21,undef),(22,.bool true),(23,.bool true),(24,undef),(25,undef),(26,undef),(27,undef),(28,.bool true),(29,.agg (enc_api_Pick (⟨0,0,0⟩ : api_Pick)).toArray)]) (by kernel_rfl) ?_
   refine r_store (c:=p17_7) (i:=1) (d:=none) (ty:=0) (t:=24) (x:=(.tmp 2)) (y:=(.tmp 29)) (b:=b1) (o:=0) (e:=24) (cs:=enc_api_Pick (⟨0,0,0⟩ : api_Pick)) (v:=.agg (enc_api_Pick (⟨0,0,0⟩ : api_Pick)).toArray) (vs:=enc_api_Pick (⟨0,0,0⟩ : api_Pick)) (cs':=enc_api_Pick (⟨0,0,0⟩ : api_Pick)) hS10 (by kernel_rfl) (by kernel_rfl) (by kernel_rfl) (by kernel_rfl) (by kernel_rfl) (by kernel_rfl) (one_api_Pick _) (Nat.le_of_ble_eq_true (by kernel_rfl)) (by kernel_rfl) ?_
   intro w14 hS15
   refine sx_run 2 (todo':=[.code p17_8,.code p17_6]) (us:=[(3,.bool false)]) (by kernel_rfl) ?_
   have hS16:=hS15.drop
   refine runs_ret (fn:=Tryd.f17) (v:=.tuple #[.agg (enc_api_Pick (⟨0,0,0⟩ : api_Pick)).toArray,.bool false]) Tryd.func17 (resl_run (fn:=Tryd.f17) (by kernel_rfl) (.cell (t:=2) (ty:=24) (by kernel_rfl) (loads_agg (hS15.blk 0 rfl) (by kernel_rfl) (by kernel_rfl)) (.tmp (t:=3) (by kernel_rfl) .nil))) ?_
   have hr17:=(Option.some.inj hp13)
   cases hr17
   exact hR _ _ ⟨rfl,hS16⟩
  ·skip
   have hp18:=ite_f hp8 h12
   refine sx_split 6 (todo':=[.inRegion (opsOf p17_4) [8,9,10,11,12,13,14],.code p17_5,.code p17_6]) (us:=[(16,.bool false),(17,.int .i64 t6),(18,.int .i64 (IntKind.i64.wrap (t6 + 1))),(19,.string a0),(20,.int .i64 (a0.size : Int))]) (d:=21) (t:=(decide ((IntKind.i64.wrap (t6 + 1)) ≥ (a0.size : Int)))) (by kernel_rfl) (fun h19 => ?_) (fun h20 => ?_)
   ·skip
    have hp21:=ite_t hp18 h19
    refine sx_run 12 (todo':=[.inRegion (opsOf p17_7) [1,2],.code p17_8,.code p17_6]) (us:=[(22,.bool true),(23,.bool true),(24,undef),(25,undef),(26,undef),(27,undef),(28,.bool true),(29,.agg (enc_api_Pick (⟨0,0,0⟩ : api_Pick)).toArray)]) (by kernel_rfl) ?_
    refine r_store (c:=p17_7) (i:=1) (d:=none) (ty:=0) (t:=24) (x:=(.tmp 2)) (y:=(.tmp 29)) (b:=b1) (o:=0) (e:=24) (cs:=enc_api_Pick (⟨0,0,0⟩ : api_Pick)) (v:=.agg (enc_api_Pick (⟨0,0,0⟩ : api_Pick)).toArray) (vs:=enc_api_Pick (⟨0,0,0⟩ : api_Pick)) (cs':=enc_api_Pick (⟨0,0,0⟩ : api_Pick)) hS10 (by kernel_rfl) (by kernel_rfl) (by kernel_rfl) (by kernel_rfl) (by kernel_rfl) (by kernel_rfl) (one_api_Pick _) (Nat.le_of_ble_eq_true (by kernel_rfl)) (by kernel_rfl) ?_
    intro w22 hS23
    refine sx_run 2 (todo':=[.code p17_8,.code p17_6]) (us:=[(3,.bool false)]) (by kernel_rfl) ?_
    have hS24:=hS23.drop
    refine runs_ret (fn:=Tryd.f17) (v:=.tuple #[.agg (enc_api_Pick (⟨0,0,0⟩ : api_Pick)).toArray,.bool false]) Tryd.func17 (resl_run (fn:=Tryd.f17) (by kernel_rfl) (.cell (t:=2) (ty:=24) (by kernel_rfl) (loads_agg (hS23.blk 0 rfl) (by kernel_rfl) (by kernel_rfl)) (.tmp (t:=3) (by kernel_rfl) .nil))) ?_
    have hr25:=(Option.some.inj hp21)
    cases hr25
    exact hR _ _ ⟨rfl,hS24⟩
   ·skip
    have hp26:=ite_f hp18 h20
    refine sx_run 4 (todo':=[.inRegion (opsOf p17_4) [12,13,14],.code p17_5,.code p17_6]) (us:=[(22,.bool false),(23,.bool false),(24,.string a0),(25,.int .i64 t6)]) (by kernel_rfl) ?_
    obtain ⟨g27,hp28⟩:=ite_some hp26
    refine r_val (c:=p17_4) (i:=12) (d:=(some 26)) (ty:=5) (op:=.index 9 (.tmp 24) (.tmp 25)) (v:=.int .u8 (byt a0 t6)) (by kernel_rfl) (by kernel_rfl) (fun o ho _ => x_indexStr (kk:=.i64) (by kernel_rfl) (by kernel_rfl) (by kernel_rfl) g27.1 g27.2 ho) ?_
    refine sx_split 1 (todo':=[.inRegion (opsOf p17_4) [14],.code p17_5,.code p17_6]) (us:=[]) (d:=27) (t:=((byt a0 t6) != 58)) (by kernel_rfl) (fun h29 => ?_) (fun h30 => ?_)
    ·skip
     have hp31:=ite_t hp28 h29
     refine sx_run 6 (todo':=[.inRegion (opsOf p17_7) [1,2],.code p17_8,.code p17_6]) (us:=[(28,.bool true),(29,.agg (enc_api_Pick (⟨0,0,0⟩ : api_Pick)).toArray)]) (by kernel_rfl) ?_
     refine r_store (c:=p17_7) (i:=1) (d:=none) (ty:=0) (t:=24) (x:=(.tmp 2)) (y:=(.tmp 29)) (b:=b1) (o:=0) (e:=24) (cs:=enc_api_Pick (⟨0,0,0⟩ : api_Pick)) (v:=.agg (enc_api_Pick (⟨0,0,0⟩ : api_Pick)).toArray) (vs:=enc_api_Pick (⟨0,0,0⟩ : api_Pick)) (cs':=enc_api_Pick (⟨0,0,0⟩ : api_Pick)) hS10 (by kernel_rfl) (by kernel_rfl) (by kernel_rfl) (by kernel_rfl) (by kernel_rfl) (by kernel_rfl) (one_api_Pick _) (Nat.le_of_ble_eq_true (by kernel_rfl)) (by kernel_rfl) ?_
     intro w32 hS33
     refine sx_run 2 (todo':=[.code p17_8,.code p17_6]) (us:=[(3,.bool false)]) (by kernel_rfl) ?_
     have hS34:=hS33.drop
     refine runs_ret (fn:=Tryd.f17) (v:=.tuple #[.agg (enc_api_Pick (⟨0,0,0⟩ : api_Pick)).toArray,.bool false]) Tryd.func17 (resl_run (fn:=Tryd.f17) (by kernel_rfl) (.cell (t:=2) (ty:=24) (by kernel_rfl) (loads_agg (hS33.blk 0 rfl) (by kernel_rfl) (by kernel_rfl)) (.tmp (t:=3) (by kernel_rfl) .nil))) ?_
     have hr35:=(Option.some.inj hp31)
     cases hr35
     exact hR _ _ ⟨rfl,hS34⟩
    ·skip
     have hp36:=ite_f hp28 h30
     refine sx_run 8 (todo':=[.inRegion (opsOf p17_9) [2,3],.code p17_10]) (us:=[(28,.bool false),(30,.int .i64 t5),(31,.agg (enc_api_Pick (⟨t5,1,0⟩ : api_Pick)).toArray)]) (by kernel_rfl) ?_
     refine r_alloc (c:=p17_9) (i:=2) (d:=(some 6)) (ty:=0) (z:=.agg (enc_api_Pick (⟨0,0,0⟩ : api_Pick)).toArray) (t:=24) (cs:=enc_api_Pick (⟨0,0,0⟩ : api_Pick)) hS10 (by kernel_rfl) (by kernel_rfl) (by kernel_rfl) (by kernel_rfl) ?_
     intro b37 w38 hS39
     refine r_store (c:=p17_9) (i:=3) (d:=none) (ty:=0) (t:=24) (x:=(.tmp 6)) (y:=(.tmp 31)) (b:=b37) (o:=0) (e:=24) (cs:=enc_api_Pick (⟨0,0,0⟩ : api_Pick)) (v:=.agg (enc_api_Pick (⟨t5,1,0⟩ : api_Pick)).toArray) (vs:=enc_api_Pick (⟨t5,1,0⟩ : api_Pick)) (cs':=enc_api_Pick (⟨t5,1,0⟩ : api_Pick)) hS39 (by kernel_rfl) (by kernel_rfl) (by kernel_rfl) (by kernel_rfl) (by kernel_rfl) (by kernel_rfl) (one_api_Pick _) (Nat.le_of_ble_eq_true (by kernel_rfl)) (by kernel_rfl) ?_
     intro w41 hS42
     refine sx_run 7 (todo':=[.inRegion (opsOf p17_11) [3,4],.code p17_12,.code p17_13]) (us:=[(32,.string a0),(33,.int .i64 t6),(34,.int .i64 (IntKind.i64.wrap (t6 + 1)))]) (by kernel_rfl) ?_
     obtain ⟨g43,hp44⟩:=ite_some hp36
     refine r_val (c:=p17_11) (i:=3) (d:=(some 35)) (ty:=5) (op:=.index 9 (.tmp 32) (.tmp 34)) (v:=.int .u8 (byt a0 (IntKind.i64.wrap (t6 + 1)))) (by kernel_rfl) (by kernel_rfl) (fun o ho _ => x_indexStr (kk:=.i64) (by kernel_rfl) (by kernel_rfl) (by kernel_rfl) g43.1 g43.2 ho) ?_
     obtain ⟨v45,hv46,hp47⟩:=bind_some' hp44
     have hq51 : ∀ x,Sum.inr x = v45 → x = (q0,q1):=by intro x hx; subst hx; simpa using hp47
     have J52 : ∀ (t48 : api_Pick) (he54 : Sum.inl t48 = v45) (l53 : List Value) (w49 : World) (hS50 : St w0 Z (xblk b1 24 (enc_api_Pick (⟨0,0,0⟩ : api_Pick))::xblk b37 24 (enc_api_Pick t48)::fs) w49),Runs Tryd.prog (fx 17) [.code p17_13] (fill (mk 79 [(0,.string a0),(2,.pointer (some ⟨b1,0,none⟩)),(5,.int .i64 t6),(6,.pointer (some ⟨b37,0,none⟩))]) l53) w49 R:=by
      intro t48 he54 l53 w49 hS50
      subst he54
      try dsimp only at hp47
      obtain ⟨v55,hv56,hp57⟩:=bind_some' hp47
      have hq62 : ∀ x,Sum.inr x = v55 → x = (q0,q1):=by intro x hx; subst hx; simpa using hp57
      have J63 : ∀ (t58 : Int) (t59 : api_Pick) (he65 : Sum.inl (t58,t59) = v55) (l64 : List Value) (w60 : World) (hS61 : St w0 Z (xblk b1 24 (enc_api_Pick (⟨0,0,0⟩ : api_Pick))::xblk b37 24 (enc_api_Pick t59)::fs) w60),Runs Tryd.prog (fx 17) [.code p17_14] (fill (mk 79 [(0,.string a0),(2,.pointer (some ⟨b1,0,none⟩)),(5,.int .i64 t58),(6,.pointer (some ⟨b37,0,none⟩))]) l64) w60 R:=by
       intro t58 t59 he65 l64 w60 hS61
       subst he65
       try dsimp only at hp57
       refine sx_run 2 (todo':=[.inRegion (opsOf p17_15) [0,1,2,3,4,5,6],.code p17_16]) (us:=[]) (by kernel_rfl) ?_
       refine r_load (c:=p17_15) (i:=0) (d:=(some 74)) (ty:=24) (t:=24) (x:=(.tmp 6)) (p:=⟨b37,0,none⟩) (v:=.agg (enc_api_Pick t59).toArray) (by kernel_rfl) (by kernel_rfl) (by kernel_rfl) (loads_agg (hS61.blk 1 rfl) (by kernel_rfl) (by kernel_rfl)) ?_
       refine sx_split 4 (todo':=[.inRegion (opsOf p17_15) [5,6],.code p17_16]) (us:=[(75,.int .i64 t58),(76,.string a0),(77,.int .i64 (a0.size : Int))]) (d:=78) (t:=(t58 == (a0.size : Int))) (by kernel_rfl) (fun h66 => ?_) (fun h67 => ?_)
       ·skip
        have hp68:=ite_t hp57 h66
        refine r_store (c:=p17_15) (i:=5) (d:=none) (ty:=0) (t:=24) (x:=(.tmp 2)) (y:=(.tmp 74)) (b:=b1) (o:=0) (e:=24) (cs:=enc_api_Pick (⟨0,0,0⟩ : api_Pick)) (v:=.agg (enc_api_Pick t59).toArray) (vs:=enc_api_Pick t59) (cs':=enc_api_Pick t59) hS61 (by kernel_rfl) (by kernel_rfl) (by kernel_rfl) (by kernel_rfl) (by kernel_rfl) (by kernel_rfl) (one_api_Pick _) (Nat.le_of_ble_eq_true (by kernel_rfl)) (by kernel_rfl) ?_
        intro w69 hS70
        refine sx_run 2 (todo':=[.code p17_16]) (us:=[(3,.bool true)]) (by kernel_rfl) ?_
        have hS71:=hS70.drop
        have hS72:=hS71.drop
        refine runs_ret (fn:=Tryd.f17) (v:=.tuple #[.agg (enc_api_Pick t59).toArray,.bool true]) Tryd.func17 (resl_run (fn:=Tryd.f17) (by kernel_rfl) (.cell (t:=2) (ty:=24) (by kernel_rfl) (loads_agg (hS70.blk 0 rfl) (by kernel_rfl) (by kernel_rfl)) (.tmp (t:=3) (by kernel_rfl) .nil))) ?_
        have hr73:=(Option.some.inj hp68)
        cases hr73
        exact hR _ _ ⟨rfl,hS72⟩
       ·skip
        have hp74:=ite_f hp57 h67
        refine r_store (c:=p17_15) (i:=5) (d:=none) (ty:=0) (t:=24) (x:=(.tmp 2)) (y:=(.tmp 74)) (b:=b1) (o:=0) (e:=24) (cs:=enc_api_Pick (⟨0,0,0⟩ : api_Pick)) (v:=.agg (enc_api_Pick t59).toArray) (vs:=enc_api_Pick t59) (cs':=enc_api_Pick t59) hS61 (by kernel_rfl) (by kernel_rfl) (by kernel_rfl) (by kernel_rfl) (by kernel_rfl) (by kernel_rfl) (one_api_Pick _) (Nat.le_of_ble_eq_true (by kernel_rfl)) (by kernel_rfl) ?_
        intro w75 hS76
        refine sx_run 2 (todo':=[.code p17_16]) (us:=[(3,.bool false)]) (by kernel_rfl) ?_
        have hS77:=hS76.drop
        have hS78:=hS77.drop
        refine runs_ret (fn:=Tryd.f17) (v:=.tuple #[.agg (enc_api_Pick t59).toArray,.bool false]) Tryd.func17 (resl_run (fn:=Tryd.f17) (by kernel_rfl) (.cell (t:=2) (ty:=24) (by kernel_rfl) (loads_agg (hS76.blk 0 rfl) (by kernel_rfl) (by kernel_rfl)) (.tmp (t:=3) (by kernel_rfl) .nil))) ?_
        have hr79:=(Option.some.inj hp74)
        cases hr79
        exact hR _ _ ⟨rfl,hS78⟩
      refine sx_split 13 (todo':=[.inRegion (opsOf p17_17) [4,5,6,7,8,9,10,11,12,13,14],.code p17_18,.code p17_14]) (us:=[(44,.int .i64 t6),(45,.int .i64 (IntKind.i64.wrap (t6 + 2))),(5,.int .i64 (IntKind.i64.wrap (t6 + 2))),(46,.int .i64 (IntKind.i64.wrap (t6 + 2))),(47,.string a0),(48,.int .i64 (a0.size : Int))]) (d:=49) (t:=(decide ((IntKind.i64.wrap (t6 + 2)) < (a0.size : Int)))) (by kernel_rfl) (fun h80 => ?_) (fun h81 => ?_)
      ·skip
       have hp82:=ite_t hv56 h80
       refine sx_run 3 (todo':=[.inRegion (opsOf p17_17) [7,8,9,10,11,12,13,14],.code p17_18,.code p17_14]) (us:=[(50,.bool true),(51,.string a0),(52,.int .i64 (IntKind.i64.wrap (t6 + 2)))]) (by kernel_rfl) ?_
       obtain ⟨g83,hp84⟩:=ite_some hp82
       refine r_val (c:=p17_17) (i:=7) (d:=(some 53)) (ty:=5) (op:=.index 9 (.tmp 51) (.tmp 52)) (v:=.int .u8 (byt a0 (IntKind.i64.wrap (t6 + 2)))) (by kernel_rfl) (by kernel_rfl) (fun o ho _ => x_indexStr (kk:=.i64) (by kernel_rfl) (by kernel_rfl) (by kernel_rfl) g83.1 g83.2 ho) ?_
       refine sx_split 1 (todo':=[.inRegion (opsOf p17_17) [9,10,11,12,13,14],.code p17_18,.code p17_14]) (us:=[]) (d:=54) (t:=((byt a0 (IntKind.i64.wrap (t6 + 2))) == 58)) (by kernel_rfl) (fun h85 => ?_) (fun h86 => ?_)
       ·skip
        have hp87:=ite_t hp84 h85
        refine sx_run 3 (todo':=[.inRegion (opsOf p17_17) [12,13,14],.code p17_18,.code p17_14]) (us:=[(55,.bool true),(56,.bool true),(57,.pointer (some ⟨b37,1,none⟩))]) (by kernel_rfl) ?_
        refine r_load (c:=p17_17) (i:=12) (d:=(some 58)) (ty:=3) (t:=3) (x:=(.tmp 57)) (p:=⟨b37,1,none⟩) (v:=.int .i64 t48.Kind) (by kernel_rfl) (by kernel_rfl) (by kernel_rfl) (loads_at 1 (hS50.blk 1 rfl) (by kernel_rfl) (by kernel_rfl)) ?_
        refine sx_split 1 (todo':=[.inRegion (opsOf p17_17) [14],.code p17_18,.code p17_14]) (us:=[]) (d:=59) (t:=(t48.Kind == 2)) (by kernel_rfl) (fun h88 => ?_) (fun h89 => ?_)
        ·skip
         have hp90:=ite_t hp87 h88
         refine sx_run 8 (todo':=[.inRegion (opsOf p17_19) [3,4,5,6,7,8],.code p17_20,.code p17_14]) (us:=[(60,.bool true),(62,.string a0),(63,.int .i64 (IntKind.i64.wrap (t6 + 2))),(64,.int .i64 (IntKind.i64.wrap ((IntKind.i64.wrap (t6 + 2)) + 1)))]) (by kernel_rfl) ?_
         obtain ⟨⟨t91,t92⟩,hr93,hp94⟩:=bind_some' hp90
         try dsimp only at hp94
         refine r_call1 (c:=p17_19) (i:=3) (d:=(some 65)) (g:=28) (args:=#[.string a0,.int .i64 (IntKind.i64.wrap ((IntKind.i64.wrap (t6 + 2)) + 1))]) (by kernel_rfl) (by kernel_rfl) (by kernel_rfl) (by kernel_rfl) (weirref15_number.ok a0 (IntKind.i64.wrap ((IntKind.i64.wrap (t6 + 2)) + 1)) hS50 hr93) ?_
         rintro _ w95 ⟨rfl,hS96⟩
         refine ⟨.tuple #[.int .i64 t91,.int .i64 t92],rfl,?_⟩
         refine sx_split 11 (todo':=[.inRegion (opsOf p17_21) [],.code p17_22,.code p17_23,.code p17_14]) (us:=[(61,.tuple #[.int .i64 t91,.int .i64 t92]),(66,.int .i64 t91),(67,.int .i64 t92),(7,.int .i64 t91),(8,.int .i64 t92),(68,.int .i64 t91)]) (d:=69) (t:=(decide (t91 < 1))) (by kernel_rfl) (fun h97 => ?_) (fun h98 => ?_)
         ·skip
          have hp99:=ite_t hp94 h97
          refine sx_run 5 (todo':=[.inRegion (opsOf p17_24) [1,2],.code p17_25,.code p17_23,.code p17_14]) (us:=[(70,.agg (enc_api_Pick (⟨0,0,0⟩ : api_Pick)).toArray)]) (by kernel_rfl) ?_
          refine r_store (c:=p17_24) (i:=1) (d:=none) (ty:=0) (t:=24) (x:=(.tmp 2)) (y:=(.tmp 70)) (b:=b1) (o:=0) (e:=24) (cs:=enc_api_Pick (⟨0,0,0⟩ : api_Pick)) (v:=.agg (enc_api_Pick (⟨0,0,0⟩ : api_Pick)).toArray) (vs:=enc_api_Pick (⟨0,0,0⟩ : api_Pick)) (cs':=enc_api_Pick (⟨0,0,0⟩ : api_Pick)) hS96 (by kernel_rfl) (by kernel_rfl) (by kernel_rfl) (by kernel_rfl) (by kernel_rfl) (by kernel_rfl) (one_api_Pick _) (Nat.le_of_ble_eq_true (by kernel_rfl)) (by kernel_rfl) ?_
          intro w100 hS101
          refine sx_run 2 (todo':=[.code p17_25,.code p17_23,.code p17_14]) (us:=[(3,.bool false)]) (by kernel_rfl) ?_
          refine r_isret (c:=p17_25) (by kernel_rfl) ?_
          have hS102:=hS101.drop
          have hS103:=hS102.drop
          refine runs_ret (fn:=Tryd.f17) (v:=.tuple #[.agg (enc_api_Pick (⟨0,0,0⟩ : api_Pick)).toArray,.bool false]) Tryd.func17 (resl_run (fn:=Tryd.f17) (by kernel_rfl) (.cell (t:=2) (ty:=24) (by kernel_rfl) (loads_agg (hS101.blk 0 rfl) (by kernel_rfl) (by kernel_rfl)) (.tmp (t:=3) (by kernel_rfl) .nil))) ?_
          have hr104:=(hq62 _ (Option.some.inj hp99))
          cases hr104
          exact hR _ _ ⟨rfl,hS103⟩
         ·skip
          have hp105:=ite_f hp94 h98
          refine sx_run 7 (todo':=[.inRegion (opsOf p17_26) [2],.code p17_27,.code p17_14]) (us:=[(71,.int .i64 t91),(72,.pointer (some ⟨b37,2,none⟩))]) (by kernel_rfl) ?_
          have hS106:=hS96.pick1
          refine r_store (c:=p17_26) (i:=2) (d:=none) (ty:=0) (t:=3) (x:=(.tmp 72)) (y:=(.tmp 71)) (b:=b37) (o:=2) (e:=24) (cs:=enc_api_Pick t48) (v:=.int .i64 t91) (vs:=[.int .i64 t91]) (cs':=enc_api_Pick (⟨t48.Thread,t48.Kind,t91⟩ : api_Pick)) hS106 (by kernel_rfl) (by kernel_rfl) (by kernel_rfl) (by kernel_rfl) (by kernel_rfl) (by kernel_rfl) (by kernel_rfl) (Nat.le_of_ble_eq_true (by kernel_rfl)) (by kernel_rfl) ?_
          intro w107 hS108
          refine sx_run 5 (todo':=[.code p17_14]) (us:=[(73,.int .i64 t92),(5,.int .i64 t92)]) (by kernel_rfl) ?_
          have hS109:=hS108.pick1
          refine Runs.fill (m:=(mk 79 [(0,.string a0),(2,.pointer (some ⟨b1,0,none⟩)),(5,.int .i64 t92),(6,.pointer (some ⟨b37,0,none⟩))])) (by kernel_rfl) ?_
          exact J63 t92 (⟨t48.Thread,t48.Kind,t91⟩ : api_Pick) (Option.some.inj hp105) _ _ hS109
        ·skip
         have hp110:=ite_f hp87 h89
         refine sx_run 4 (todo':=[.code p17_14]) (us:=[(60,.bool false)]) (by kernel_rfl) ?_
         refine Runs.fill (m:=(mk 79 [(0,.string a0),(2,.pointer (some ⟨b1,0,none⟩)),(5,.int .i64 (IntKind.i64.wrap (t6 + 2))),(6,.pointer (some ⟨b37,0,none⟩))])) (by kernel_rfl) ?_
         exact J63 (IntKind.i64.wrap (t6 + 2)) t48 (Option.some.inj hp110) _ _ hS50
       ·skip
        have hp111:=ite_f hp84 h86
        refine sx_run 9 (todo':=[.code p17_14]) (us:=[(55,.bool false),(56,.bool false),(57,undef),(58,undef),(59,undef),(60,.bool false)]) (by kernel_rfl) ?_
        refine Runs.fill (m:=(mk 79 [(0,.string a0),(2,.pointer (some ⟨b1,0,none⟩)),(5,.int .i64 (IntKind.i64.wrap (t6 + 2))),(6,.pointer (some ⟨b37,0,none⟩))])) (by kernel_rfl) ?_
        exact J63 (IntKind.i64.wrap (t6 + 2)) t48 (Option.some.inj hp111) _ _ hS50
      ·skip
       have hp112:=ite_f hv56 h81
       refine sx_run 14 (todo':=[.code p17_14]) (us:=[(50,.bool false),(51,undef),(52,undef),(53,undef),(54,undef),(55,.bool false),(56,.bool false),(57,undef),(58,undef),(59,undef),(60,.bool false)]) (by kernel_rfl) ?_
       refine Runs.fill (m:=(mk 79 [(0,.string a0),(2,.pointer (some ⟨b1,0,none⟩)),(5,.int .i64 (IntKind.i64.wrap (t6 + 2))),(6,.pointer (some ⟨b37,0,none⟩))])) (by kernel_rfl) ?_
       exact J63 (IntKind.i64.wrap (t6 + 2)) t48 (Option.some.inj hp112) _ _ hS50
     refine sx_split 1 (todo':=[.inRegion (opsOf p17_11) [],.code p17_12,.code p17_13]) (us:=[]) (d:=36) (t:=((byt a0 (IntKind.i64.wrap (t6 + 1))) == 102)) (by kernel_rfl) (fun h113 => ?_) (fun h114 => ?_)
     ·skip
      have hp115:=ite_t hv46 h113
      refine sx_run 4 (todo':=[.inRegion (opsOf p17_28) [1],.code p17_13]) (us:=[(37,.pointer (some ⟨b37,1,none⟩))]) (by kernel_rfl) ?_
      refine r_store (c:=p17_28) (i:=1) (d:=none) (ty:=0) (t:=3) (x:=(.tmp 37)) (y:=(.const (.int .i64 2))) (b:=b37) (o:=1) (e:=24) (cs:=enc_api_Pick (⟨t5,1,0⟩ : api_Pick)) (v:=.int .i64 2) (vs:=[.int .i64 2]) (cs':=enc_api_Pick (⟨t5,2,0⟩ : api_Pick)) hS42 (by kernel_rfl) (by kernel_rfl) (by kernel_rfl) (by kernel_rfl) (by kernel_rfl) (by kernel_rfl) (by kernel_rfl) (Nat.le_of_ble_eq_true (by kernel_rfl)) (by kernel_rfl) ?_
      intro w116 hS117
      refine sx_run 1 (todo':=[.code p17_13]) (us:=[]) (by kernel_rfl) ?_
      have hS118:=hS117.pick1
      refine Runs.fill (m:=(mk 79 [(0,.string a0),(2,.pointer (some ⟨b1,0,none⟩)),(5,.int .i64 t6),(6,.pointer (some ⟨b37,0,none⟩))])) (by kernel_rfl) ?_
      exact J52 (⟨t5,2,0⟩ : api_Pick) (Option.some.inj hp115) _ _ hS118
     ·skip
      have hp119:=ite_f hv46 h114
      refine sx_run 7 (todo':=[.inRegion (opsOf p17_29) [3,4],.code p17_30,.code p17_13]) (us:=[(38,.string a0),(39,.int .i64 t6),(40,.int .i64 (IntKind.i64.wrap (t6 + 1)))]) (by kernel_rfl) ?_
      obtain ⟨g120,hp121⟩:=ite_some hp119
      refine r_val (c:=p17_29) (i:=3) (d:=(some 41)) (ty:=5) (op:=.index 9 (.tmp 38) (.tmp 40)) (v:=.int .u8 (byt a0 (IntKind.i64.wrap (t6 + 1)))) (by kernel_rfl) (by kernel_rfl) (fun o ho _ => x_indexStr (kk:=.i64) (by kernel_rfl) (by kernel_rfl) (by kernel_rfl) g120.1 g120.2 ho) ?_
      refine sx_split 1 (todo':=[.inRegion (opsOf p17_29) [],.code p17_30,.code p17_13]) (us:=[]) (d:=42) (t:=((byt a0 (IntKind.i64.wrap (t6 + 1))) != 115)) (by kernel_rfl) (fun h122 => ?_) (fun h123 => ?_)
      ·skip
       have hp124:=ite_t hp121 h122
       refine sx_run 5 (todo':=[.inRegion (opsOf p17_31) [1,2],.code p17_32,.code p17_13]) (us:=[(43,.agg (enc_api_Pick (⟨0,0,0⟩ : api_Pick)).toArray)]) (by kernel_rfl) ?_
       have hS125:=hS42.pick1
       refine r_store (c:=p17_31) (i:=1) (d:=none) (ty:=0) (t:=24) (x:=(.tmp 2)) (y:=(.tmp 43)) (b:=b1) (o:=0) (e:=24) (cs:=enc_api_Pick (⟨0,0,0⟩ : api_Pick)) (v:=.agg (enc_api_Pick (⟨0,0,0⟩ : api_Pick)).toArray) (vs:=enc_api_Pick (⟨0,0,0⟩ : api_Pick)) (cs':=enc_api_Pick (⟨0,0,0⟩ : api_Pick)) hS125 (by kernel_rfl) (by kernel_rfl) (by kernel_rfl) (by kernel_rfl) (by kernel_rfl) (by kernel_rfl) (one_api_Pick _) (Nat.le_of_ble_eq_true (by kernel_rfl)) (by kernel_rfl) ?_
       intro w126 hS127
       refine sx_run 2 (todo':=[.code p17_32,.code p17_13]) (us:=[(3,.bool false)]) (by kernel_rfl) ?_
       have hS128:=hS127.drop
       have hS129:=hS128.drop
       refine runs_ret (fn:=Tryd.f17) (v:=.tuple #[.agg (enc_api_Pick (⟨0,0,0⟩ : api_Pick)).toArray,.bool false]) Tryd.func17 (resl_run (fn:=Tryd.f17) (by kernel_rfl) (.cell (t:=2) (ty:=24) (by kernel_rfl) (loads_agg (hS127.blk 0 rfl) (by kernel_rfl) (by kernel_rfl)) (.tmp (t:=3) (by kernel_rfl) .nil))) ?_
       have hr130:=(hq51 _ (Option.some.inj hp124))
       cases hr130
       exact hR _ _ ⟨rfl,hS129⟩
      ·skip
       have hp131:=ite_f hp121 h123
       refine sx_run 3 (todo':=[.code p17_13]) (us:=[]) (by kernel_rfl) ?_
       have hS132:=hS42.pick1
       refine Runs.fill (m:=(mk 79 [(0,.string a0),(2,.pointer (some ⟨b1,0,none⟩)),(5,.int .i64 t6),(6,.pointer (some ⟨b37,0,none⟩))])) (by kernel_rfl) ?_
       exact J52 (⟨t5,1,0⟩ : api_Pick) (Option.some.inj hp131) _ _ hS132

end
end Go.Proofs.YtlapbgeklhinmaaDoor.K
