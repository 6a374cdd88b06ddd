/- The walk, part 5: each Go function as a plain Lean function, and that its call answers as that function says. No condition. -/
import Derived.Test.YtkhcbamlhckilaaGreatDoorE
import Derived.Test.YtkhcbamlhckilaaGreatDoorNG
import Derived.Test.YtkhcbamlhckilaaGreatDoorNP
import Derived.Test.YtkhcbamlhckilaaGreatDoorNM
import Derived.Test.YtkhcbamlhckilaaGreatDoorNI
import Derived.Test.YtkhcbamlhckilaaGreatDoorNV
import Derived.Test.YtkhcbamlhckilaaGreatDoorNY
import Derived.Test.YtkhcbamlhckilaaGreatDoorNC
import Derived.Test.YtkhcbamlhckilaaGreatDoorNA
import Derived.Test.YtkhcbamlhckilaaGreatDoorG4
set_option linter.unusedVariables false
set_option linter.unusedSimpArgs false
set_option maxRecDepth 100000
namespace Go.Proofs.YtkhcbamlhckilaaGreatDoor.K
open Go Go.RowKit
noncomputable section
noncomputable def cd28 (p : List Nat) : Code := sub (bodyOf Tryz.f28) p
abbrev p28_0:=cd28 [1,0,0]
abbrev td294:List Item:=[.code (cd28 [1,1])]
abbrev td295:List Item:=.code (cd28 [1,0,1])::td294
def weirref07_reader__is.f (a0v : weirref07_reader) (a1 : ByteArray) : Option (Bool × Int) :=
  (if (a0v.F.Code != 0) = true then some ((false,a0v.At)) else (weirref07_reader__sees.f a0v a1 >>= (fun t6 => (if (!t6) = true then some ((false,a0v.At)) else (weirref07_reader__take.f a0v >>= (fun (t25,t26) => some ((true,t26))))))))
set_option maxHeartbeats 16000000 in
theorem weirref07_reader__is.ok (a0v : weirref07_reader) (a1 : ByteArray) (ba0 : Nat) (y47 : Option Addr) (y48 : Nat) (y49 : Option Addr) (y50 : Nat) (y51 : Option Addr) (y52 : Nat) (y53 : Option Addr) (y54 : Nat) (y55 : Option Addr) (y56 : Nat) (y31 : Option Addr) (y32 : Nat) (y33 : Option Addr) (y34 : Nat) (y35 : Option Addr) (y36 : Nat) (y57 : Option Addr) (y58 : Nat) {w0 : World} {Z : Zm} {fs : List XObj} {w : World} (hS0 : St w0 Z (xblk ba0 55 (([.slice y47 a0v.L.length y48] : List Value) ++ (enc_weirref05_Fault a0v.Bad) ++ ([.int .i64 a0v.At] : List Value) ++ (enc_weirref05_Fault a0v.F) ++ ([.string a0v.Test.Name,.string a0v.Test.Doc,.slice y49 a0v.Test.Inits.length y50,.slice y51 a0v.Test.Threads.length y52,.slice y53 a0v.Test.Watch.length y54,.int .i64 a0v.Test.Quant,.slice y55 a0v.Test.Cond.length y56,.slice y31 a0v.Sets.length y32,.slice y33 a0v.Cols.length y34,.slice y35 a0v.Rows.length y36,.slice y57 a0v.Seen.length y58,.int .i64 a0v.Cond] : List Value))::fs) w) (y59 : SlZ (flat enc_api_Token) 7 Z y47 y48 a0v.L) (y60 : SlZ (flat enc_api_Init) 3 Z y49 y50 a0v.Test.Inits) (y61 : SlZ (repL (flat enc_api_Instr) 5) 1 Z y51 y52 a0v.Test.Threads) (y62 : SlZ (flat enc_api_Ref) 2 Z y53 y54 a0v.Test.Watch) (y63 : SlZ (flat enc_api_Node) 6 Z y55 y56 a0v.Test.Cond) (y44 : SlZ (flat enc_api_Token) 7 Z y31 y32 a0v.Sets) (y45 : SlZ (flat enc_api_Token) 7 Z y33 y34 a0v.Cols) (y46 : SlZ (repL (flat enc_api_Token) 7) 1 Z y35 y36 a0v.Rows) (y64 : SlZ (flat enc_api_Token) 7 Z y57 y58 a0v.Seen) {q0 : Bool} {q1 : Int} (hp0 : weirref07_reader__is.f a0v a1 = some (q0,q1)) :
    Calls Tryz.prog 28 #[.pointer (some ⟨ba0,0,none⟩),.string a1] w (fun e w' => e = .returned (.bool q0) ∧ St w0 Z (xblk ba0 55 (([.slice y47 a0v.L.length y48] : List Value) ++ (enc_weirref05_Fault a0v.Bad) ++ ([.int .i64 q1] : List Value) ++ (enc_weirref05_Fault a0v.F) ++ ([.string a0v.Test.Name,.string a0v.Test.Doc,.slice y49 a0v.Test.Inits.length y50,.slice y51 a0v.Test.Threads.length y52,.slice y53 a0v.Test.Watch.length y54,.int .i64 a0v.Test.Quant,.slice y55 a0v.Test.Cond.length y56,.slice y31 a0v.Sets.length y32,.slice y33 a0v.Cols.length y34,.slice y35 a0v.Rows.length y36,.slice y57 a0v.Seen.length y58,.int .i64 a0v.Cond] : List Value))::fs) w'):=by
  refine calls_abs ?_; intro R hR
  unfold weirref07_reader__is.f at hp0
  refine calls_of_runs (fn:=Tryz.f28) (c:=cd28 []) Tryz.func28 (by kernel_rfl) (al:=[.pointer (some ⟨ba0,0,none⟩),.string a1]) rfl (n:=17) rfl ?_
  refine sR 11 (iR p28_0 4 8::td295) ?_
  refine rL1 3 (.tmp 8) 2 (Cells.mid' (pre:=[.slice y47 a0v.L.length y48] ++ (enc_weirref05_Fault a0v.Bad) ++ [.int .i64 a0v.At]) (cs:=enc_weirref05_Fault a0v.F) (post:=[.string a0v.Test.Name,.string a0v.Test.Doc,.slice y49 a0v.Test.Inits.length y50,.slice y51 a0v.Test.Threads.length y52,.slice y53 a0v.Test.Watch.length y54,.int .i64 a0v.Test.Quant,.slice y55 a0v.Test.Cond.length y56] ++ [.slice y31 a0v.Sets.length y32] ++ [.slice y33 a0v.Cols.length y34] ++ [.slice y35 a0v.Rows.length y36] ++ [.slice y57 a0v.Seen.length y58] ++ [.int .i64 a0v.Cond]) (off:=5) (hS0.blk 0 rfl) (by simp [len_weirref05_Fault,len_weirref05_Fault]) (by simp)) ?_
  refine sS 1 (iR p28_0 6 6::td295) 10 (a0v.F.Code != 0) (fun h1 => ?_) fun h2 => ?_
  ·have hp3:=ite_t hp0 h1
   refine sR 12 (.code (cd28 [1,0,1,0,1])::td294) ?_
   refine rR (.bool false) Tryz.func28 ?_
   cases Option.some.inj hp3
   exact hR _ _ ⟨rfl,hS0⟩
  have hp5:=ite_f hp0 h2
  refine sR 3 (.inRegion (opsOf p28_0) [9,10,11]::td295) ?_
  obtain ⟨t6,hr7,hp8⟩:=bind_some' hp5
  refine rC (weirref07_reader__sees.ok a0v a1 ba0 y47 y48 y49 y50 y51 y52 y53 y54 y55 y56 y31 y32 y33 y34 y35 y36 y57 y58 hS0 y59 y60 y61 y62 y63 y44 y45 y46 y64 hr7) ?_
  rintro _ w18 ⟨rfl,hS19⟩
  refine ⟨_,rfl,?_⟩
  refine sS 1 (.inRegion (opsOf p28_0) [11]::td295) 15 (!t6) (fun h20 => ?_) fun h21 => ?_
  ·have hp22:=ite_t hp8 h20
   refine sR 7 (.code (cd28 [1,0,1,0,1])::td294) ?_
   refine rR (.bool false) Tryz.func28 ?_
   cases Option.some.inj hp22
   exact hR _ _ ⟨rfl,hS19⟩
  have hp24:=ite_f hp8 h21
  refine sR 7 [.inRegion (opsOf (cd28 [1,1,0])) [1],.code (cd28 [1,1,1])] ?_
  obtain ⟨⟨t25,t26⟩,hr27,hp28⟩:=bind_some' hp24
  try dsimp only at hp28
  refine rC (weirref07_reader__take.ok a0v ba0 y47 y48 y49 y50 y51 y52 y53 y54 y55 y56 y31 y32 y33 y34 y35 y36 y57 y58 hS19 y59 y60 y61 y62 y63 y44 y45 y46 y64 hr27) ?_
  rintro _ w29 ⟨rfl,hS30⟩
  refine ⟨_,rfl,?_⟩
  refine sR 5 [.code (cd28 [1,1,1,1])] ?_
  refine rR (.bool true) Tryz.func28 ?_
  cases Option.some.inj hp28
  exact hR _ _ ⟨rfl,hS30⟩

noncomputable def cd15 (p : List Nat) : Code := sub (bodyOf Tryz.f15) p
abbrev p15_6:=cd15 [1,1,0]
abbrev p15_7:=cd15 [1,1,1]
abbrev p15_8:=cd15 [1,1,1,0]
abbrev p15_9:=cd15 [1,1,1,1]
def weirref07_reader__wrong.f (a0v : weirref07_reader) : Option weirref05_Fault :=
  (if (a0v.F.Code != 0) = true then some (a0v.F) else (weirref07_reader__next.f a0v >>= (fun t6 => (if (t6.Kind == 0) = true then (if (a0v.Bad.Code != 0) = true then some (a0v.Bad) else some ((⟨t6.Line,t6.Col,70⟩ : weirref05_Fault))) else some ((⟨t6.Line,t6.Col,70⟩ : weirref05_Fault))))))
set_option maxHeartbeats 16000000 in
theorem weirref07_reader__wrong.ok (a0v : weirref07_reader) (ba0 : Nat) (y47 : Option Addr) (y48 : Nat) (y49 : Option Addr) (y50 : Nat) (y51 : Option Addr) (y52 : Nat) (y53 : Option Addr) (y54 : Nat) (y55 : Option Addr) (y56 : Nat) (y31 : Option Addr) (y32 : Nat) (y33 : Option Addr) (y34 : Nat) (y35 : Option Addr) (y36 : Nat) (y57 : Option Addr) (y58 : Nat) {w0 : World} {Z : Zm} {fs : List XObj} {w : World} (hS0 : St w0 Z (xblk ba0 55 (([.slice y47 a0v.L.length y48] : List Value) ++ (enc_weirref05_Fault a0v.Bad) ++ ([.int .i64 a0v.At] : List Value) ++ (enc_weirref05_Fault a0v.F) ++ ([.string a0v.Test.Name,.string a0v.Test.Doc,.slice y49 a0v.Test.Inits.length y50,.slice y51 a0v.Test.Threads.length y52,.slice y53 a0v.Test.Watch.length y54,.int .i64 a0v.Test.Quant,.slice y55 a0v.Test.Cond.length y56,.slice y31 a0v.Sets.length y32,.slice y33 a0v.Cols.length y34,.slice y35 a0v.Rows.length y36,.slice y57 a0v.Seen.length y58,.int .i64 a0v.Cond] : List Value))::fs) w) (y59 : SlZ (flat enc_api_Token) 7 Z y47 y48 a0v.L) (y60 : SlZ (flat enc_api_Init) 3 Z y49 y50 a0v.Test.Inits) (y61 : SlZ (repL (flat enc_api_Instr) 5) 1 Z y51 y52 a0v.Test.Threads) (y62 : SlZ (flat enc_api_Ref) 2 Z y53 y54 a0v.Test.Watch) (y63 : SlZ (flat enc_api_Node) 6 Z y55 y56 a0v.Test.Cond) (y44 : SlZ (flat enc_api_Token) 7 Z y31 y32 a0v.Sets) (y45 : SlZ (flat enc_api_Token) 7 Z y33 y34 a0v.Cols) (y46 : SlZ (repL (flat enc_api_Token) 7) 1 Z y35 y36 a0v.Rows) (y64 : SlZ (flat enc_api_Token) 7 Z y57 y58 a0v.Seen) {q0 : weirref05_Fault} (hp0 : weirref07_reader__wrong.f a0v = some q0) :
    Calls Tryz.prog 15 #[.pointer (some ⟨ba0,0,none⟩)] w (fun e w' => e = .returned (.tuple #[]) ∧ St w0 Z (xblk ba0 55 (([.slice y47 a0v.L.length y48] : List Value) ++ (enc_weirref05_Fault a0v.Bad) ++ ([.int .i64 a0v.At] : List Value) ++ (enc_weirref05_Fault q0) ++ ([.string a0v.Test.Name,.string a0v.Test.Doc,.slice y49 a0v.Test.Inits.length y50,.slice y51 a0v.Test.Threads.length y52,.slice y53 a0v.Test.Watch.length y54,.int .i64 a0v.Test.Quant,.slice y55 a0v.Test.Cond.length y56,.slice y31 a0v.Sets.length y32,.slice y33 a0v.Cols.length y34,.slice y35 a0v.Rows.length y36,.slice y57 a0v.Seen.length y58,.int .i64 a0v.Cond] : List Value))::fs) w'):=by
  refine calls_abs ?_; intro R hR
  unfold weirref07_reader__wrong.f at hp0
  refine calls_of_runs (fn:=Tryz.f15) (c:=cd15 []) Tryz.func15 (by kernel_rfl) (al:=[.pointer (some ⟨ba0,0,none⟩)]) rfl (n:=36) rfl ?_
  refine sR 7 [.inRegion (opsOf (cd15 [0,0])) [4,5],.code (cd15 [0,1]),.code (cd15 [1])] ?_
  refine rL1 3 (.tmp 6) 2 (Cells.mid' (pre:=[.slice y47 a0v.L.length y48] ++ (enc_weirref05_Fault a0v.Bad) ++ [.int .i64 a0v.At]) (cs:=enc_weirref05_Fault a0v.F) (post:=[.string a0v.Test.Name,.string a0v.Test.Doc,.slice y49 a0v.Test.Inits.length y50,.slice y51 a0v.Test.Threads.length y52,.slice y53 a0v.Test.Watch.length y54,.int .i64 a0v.Test.Quant,.slice y55 a0v.Test.Cond.length y56] ++ [.slice y31 a0v.Sets.length y32] ++ [.slice y33 a0v.Cols.length y34] ++ [.slice y35 a0v.Rows.length y36] ++ [.slice y57 a0v.Seen.length y58] ++ [.int .i64 a0v.Cond]) (off:=5) (hS0.blk 0 rfl) (by simp [len_weirref05_Fault,len_weirref05_Fault]) (by simp)) ?_
  refine sS 1 [.inRegion (opsOf (cd15 [0,0])) [],.code (cd15 [0,1]),.code (cd15 [1])] 8 (a0v.F.Code != 0) (fun h1 => ?_) fun h2 => ?_
  ·have hp3:=ite_t hp0 h1
   refine sR 2 [.code (cd15 [0,1,0]),.code (cd15 [1])] ?_
   refine rR (.tuple #[]) Tryz.func15 ?_
   cases Option.some.inj hp3
   exact hR _ _ ⟨rfl,hS0⟩
  have hp5:=ite_f hp0 h2
  refine sR 6 [.inRegion (opsOf (cd15 [1,0])) [1,2,3],.code (cd15 [1,1])] ?_
  obtain ⟨t6,hr7,hp8⟩:=bind_some' hp5
  refine rC (weirref07_reader__next.ok a0v ba0 y47 y48 y49 y50 y51 y52 y53 y54 y55 y56 y31 y32 y33 y34 y35 y36 y57 y58 hS0 y59 y60 y61 y62 y63 y44 y45 y46 y64 hr7) ?_
  rintro _ w18 ⟨rfl,hS19⟩
  refine ⟨_,rfl,?_⟩
  refine rA 39 (.agg (enc_api_Token (⟨0,(⟨#[]⟩ : ByteArray),0,0,0,0,0⟩ : api_Token)).toArray) (enc_api_Token (⟨0,(⟨#[]⟩ : ByteArray),0,0,0,0,0⟩ : api_Token)) hS19 ?_
  intro b20 w21 hS22
  refine rSA 39 (.tmp 2) (.tmp 10) (enc_api_Token t6) hS22 (one_api_Token _) ?_
  intro w24 hS25
  refine sR 5 [iR p15_6 2 7,.code p15_7] ?_
  refine rL1 3 (.tmp 12) 3 (hS25.blk 0 rfl) ?_
  refine sR 1 [iR p15_6 4 5,.code p15_7] ?_
  refine rL1 3 (.tmp 14) 4 (hS25.blk 0 rfl) ?_
  refine sR 3 [.inRegion (opsOf p15_6) [8],.code p15_7] ?_
  have hS26:=hS25.pick1
  refine rSG 29 (.tmp 18) (.tmp 16) 5 (.agg (enc_weirref05_Fault (⟨t6.Line,t6.Col,70⟩ : weirref05_Fault)).toArray) (enc_weirref05_Fault (⟨t6.Line,t6.Col,70⟩ : weirref05_Fault)) (([.slice y47 a0v.L.length y48] : List Value) ++ (enc_weirref05_Fault a0v.Bad) ++ ([.int .i64 a0v.At] : List Value) ++ (enc_weirref05_Fault (⟨t6.Line,t6.Col,70⟩ : weirref05_Fault)) ++ ([.string a0v.Test.Name,.string a0v.Test.Doc,.slice y49 a0v.Test.Inits.length y50,.slice y51 a0v.Test.Threads.length y52,.slice y53 a0v.Test.Watch.length y54,.int .i64 a0v.Test.Quant,.slice y55 a0v.Test.Cond.length y56,.slice y31 a0v.Sets.length y32,.slice y33 a0v.Cols.length y34,.slice y35 a0v.Rows.length y36,.slice y57 a0v.Seen.length y58,.int .i64 a0v.Cond] : List Value)) hS26 (one_weirref05_Fault _) ?_
  intro w27 hS28
  refine sR 4 [iR p15_8 1 10,.code p15_9] ?_
  refine rL1 3 (.tmp 19) 0 (hS28.blk 1 rfl) ?_
  refine sS 1 [iR p15_8 3 8,.code p15_9] 21 (t6.Kind == 0) (fun h29 => ?_) fun h30 => ?_
  ·have hp31:=ite_t hp8 h29
   refine sR 5 [.inRegion (opsOf p15_8) [8,9,10],.code p15_9] ?_
   refine rL1 3 (.tmp 26) 2 (Cells.mid' (pre:=[.slice y47 a0v.L.length y48]) (cs:=enc_weirref05_Fault a0v.Bad) (post:=[.int .i64 a0v.At] ++ (enc_weirref05_Fault (⟨t6.Line,t6.Col,70⟩ : weirref05_Fault)) ++ [.string a0v.Test.Name,.string a0v.Test.Doc,.slice y49 a0v.Test.Inits.length y50,.slice y51 a0v.Test.Threads.length y52,.slice y53 a0v.Test.Watch.length y54,.int .i64 a0v.Test.Quant,.slice y55 a0v.Test.Cond.length y56] ++ [.slice y31 a0v.Sets.length y32] ++ [.slice y33 a0v.Cols.length y34] ++ [.slice y35 a0v.Rows.length y36] ++ [.slice y57 a0v.Seen.length y58] ++ [.int .i64 a0v.Cond]) (off:=1) (hS28.blk 0 rfl) (by simp [len_weirref05_Fault,len_weirref05_Fault]) (by simp)) ?_
   refine sS 1 [.inRegion (opsOf p15_8) [10],.code p15_9] 28 (a0v.Bad.Code != 0) (fun h32 => ?_) fun h33 => ?_
   ·have hp34:=ite_t hp31 h32
    refine sR 8 [iR (cd15 [1,1,1,1,0]) 4 4] ?_
    refine rLa 29 (.tmp 33) (Cells.mid' (pre:=[.slice y47 a0v.L.length y48]) (cs:=enc_weirref05_Fault a0v.Bad) (post:=[.int .i64 a0v.At] ++ (enc_weirref05_Fault (⟨t6.Line,t6.Col,70⟩ : weirref05_Fault)) ++ [.string a0v.Test.Name,.string a0v.Test.Doc,.slice y49 a0v.Test.Inits.length y50,.slice y51 a0v.Test.Threads.length y52,.slice y53 a0v.Test.Watch.length y54,.int .i64 a0v.Test.Quant,.slice y55 a0v.Test.Cond.length y56] ++ [.slice y31 a0v.Sets.length y32] ++ [.slice y33 a0v.Cols.length y34] ++ [.slice y35 a0v.Rows.length y36] ++ [.slice y57 a0v.Seen.length y58] ++ [.int .i64 a0v.Cond]) (off:=1) (hS28.blk 0 rfl) (by simp [len_weirref05_Fault,len_weirref05_Fault]) (by simp)) ?_
    refine sR 2 [.inRegion (opsOf (cd15 [1,1,1,1,0])) [7]] ?_
    refine rSG 29 (.tmp 36) (.tmp 34) 5 (.agg (enc_weirref05_Fault a0v.Bad).toArray) (enc_weirref05_Fault a0v.Bad) (([.slice y47 a0v.L.length y48] : List Value) ++ (enc_weirref05_Fault a0v.Bad) ++ ([.int .i64 a0v.At] : List Value) ++ (enc_weirref05_Fault a0v.Bad) ++ ([.string a0v.Test.Name,.string a0v.Test.Doc,.slice y49 a0v.Test.Inits.length y50,.slice y51 a0v.Test.Threads.length y52,.slice y53 a0v.Test.Watch.length y54,.int .i64 a0v.Test.Quant,.slice y55 a0v.Test.Cond.length y56,.slice y31 a0v.Sets.length y32,.slice y33 a0v.Cols.length y34,.slice y35 a0v.Rows.length y36,.slice y57 a0v.Seen.length y58,.int .i64 a0v.Cond] : List Value)) hS28 (one_weirref05_Fault _) ?_
    intro w35 hS36
    refine sR 1 [] ?_
    have hS37:=hS36.pick1
    have hS38:=hS37.drop
    refine runs_end (fn:=Tryz.f15) (v:=.tuple #[]) Tryz.func15 (by kernel_rfl) ?_
    cases Option.some.inj hp34
    exact hR _ _ ⟨rfl,hS38⟩
   have hp40:=ite_f hp31 h33
   refine sR 4 [] ?_
   have hS41:=hS28.pick1
   have hS42:=hS41.drop
   refine runs_end (fn:=Tryz.f15) (v:=.tuple #[]) Tryz.func15 (by kernel_rfl) ?_
   cases Option.some.inj hp40
   exact hR _ _ ⟨rfl,hS42⟩
  have hp44:=ite_f hp8 h30
  refine sR 11 [] ?_
  have hS45:=hS28.pick1
  have hS46:=hS45.drop
  refine runs_end (fn:=Tryz.f15) (v:=.tuple #[]) Tryz.func15 (by kernel_rfl) ?_
  cases Option.some.inj hp44
  exact hR _ _ ⟨rfl,hS46⟩

noncomputable def cd31 (p : List Nat) : Code := sub (bodyOf Tryz.f31) p
def weirref07_reader__must.f (a0v : weirref07_reader) (a1 : ByteArray) : Option (Int × weirref05_Fault) :=
  (weirref07_reader__is.f a0v a1 >>= (fun (t1,t2) => (if (!t1) = true then (weirref07_reader__wrong.f (⟨a0v.L,a0v.Bad,t2,a0v.F,a0v.Test,a0v.Sets,a0v.Cols,a0v.Rows,a0v.Seen,a0v.Cond⟩ : weirref07_reader) >>= (fun t10 => some ((t2,t10)))) else some ((t2,a0v.F)))))
set_option maxHeartbeats 16000000 in
theorem weirref07_reader__must.ok (a0v : weirref07_reader) (a1 : ByteArray) (ba0 : Nat) (y47 : Option Addr) (y48 : Nat) (y49 : Option Addr) (y50 : Nat) (y51 : Option Addr) (y52 : Nat) (y53 : Option Addr) (y54 : Nat) (y55 : Option Addr) (y56 : Nat) (y31 : Option Addr) (y32 : Nat) (y33 : Option Addr) (y34 : Nat) (y35 : Option Addr) (y36 : Nat) (y57 : Option Addr) (y58 : Nat) {w0 : World} {Z : Zm} {fs : List XObj} {w : World} (hS0 : St w0 Z (xblk ba0 55 (([.slice y47 a0v.L.length y48] : List Value) ++ (enc_weirref05_Fault a0v.Bad) ++ ([.int .i64 a0v.At] : List Value) ++ (enc_weirref05_Fault a0v.F) ++ ([.string a0v.Test.Name,.string a0v.Test.Doc,.slice y49 a0v.Test.Inits.length y50,.slice y51 a0v.Test.Threads.length y52,.slice y53 a0v.Test.Watch.length y54,.int .i64 a0v.Test.Quant,.slice y55 a0v.Test.Cond.length y56,.slice y31 a0v.Sets.length y32,.slice y33 a0v.Cols.length y34,.slice y35 a0v.Rows.length y36,.slice y57 a0v.Seen.length y58,.int .i64 a0v.Cond] : List Value))::fs) w) (y59 : SlZ (flat enc_api_Token) 7 Z y47 y48 a0v.L) (y60 : SlZ (flat enc_api_Init) 3 Z y49 y50 a0v.Test.Inits) (y61 : SlZ (repL (flat enc_api_Instr) 5) 1 Z y51 y52 a0v.Test.Threads) (y62 : SlZ (flat enc_api_Ref) 2 Z y53 y54 a0v.Test.Watch) (y63 : SlZ (flat enc_api_Node) 6 Z y55 y56 a0v.Test.Cond) (y44 : SlZ (flat enc_api_Token) 7 Z y31 y32 a0v.Sets) (y45 : SlZ (flat enc_api_Token) 7 Z y33 y34 a0v.Cols) (y46 : SlZ (repL (flat enc_api_Token) 7) 1 Z y35 y36 a0v.Rows) (y64 : SlZ (flat enc_api_Token) 7 Z y57 y58 a0v.Seen) {q0 : Int} {q1 : weirref05_Fault} (hp0 : weirref07_reader__must.f a0v a1 = some (q0,q1)) :
    Calls Tryz.prog 31 #[.pointer (some ⟨ba0,0,none⟩),.string a1] w (fun e w' => e = .returned (.tuple #[]) ∧ St w0 Z (xblk ba0 55 (([.slice y47 a0v.L.length y48] : List Value) ++ (enc_weirref05_Fault a0v.Bad) ++ ([.int .i64 q0] : List Value) ++ (enc_weirref05_Fault q1) ++ ([.string a0v.Test.Name,.string a0v.Test.Doc,.slice y49 a0v.Test.Inits.length y50,.slice y51 a0v.Test.Threads.length y52,.slice y53 a0v.Test.Watch.length y54,.int .i64 a0v.Test.Quant,.slice y55 a0v.Test.Cond.length y56,.slice y31 a0v.Sets.length y32,.slice y33 a0v.Cols.length y34,.slice y35 a0v.Rows.length y36,.slice y57 a0v.Seen.length y58,.int .i64 a0v.Cond] : List Value))::fs) w'):=by
  refine calls_abs ?_; intro R hR
  unfold weirref07_reader__must.f at hp0
  refine calls_of_runs (fn:=Tryz.f31) (c:=cd31 []) Tryz.func31 (by kernel_rfl) (al:=[.pointer (some ⟨ba0,0,none⟩),.string a1]) rfl (n:=8) rfl ?_
  refine sR 4 [.inRegion (opsOf (cd31 [0])) [2,3],.code (cd31 [1])] ?_
  obtain ⟨⟨t1,t2⟩,hr3,hp4⟩:=bind_some' hp0
  try dsimp only at hp4
  refine rC (weirref07_reader__is.ok a0v a1 ba0 y47 y48 y49 y50 y51 y52 y53 y54 y55 y56 y31 y32 y33 y34 y35 y36 y57 y58 hS0 y59 y60 y61 y62 y63 y44 y45 y46 y64 hr3) ?_
  rintro _ w5 ⟨rfl,hS6⟩
  refine ⟨_,rfl,?_⟩
  refine sS 1 [.inRegion (opsOf (cd31 [0])) [],.code (cd31 [1])] 7 (!t1) (fun h7 => ?_) fun h8 => ?_
  ·have hp9:=ite_t hp4 h7
   refine sR 4 [.inRegion (opsOf (cd31 [1,0])) [1]] ?_
   obtain ⟨t10,hr11,hp12⟩:=bind_some' hp9
   refine rC (weirref07_reader__wrong.ok (⟨a0v.L,a0v.Bad,t2,a0v.F,a0v.Test,a0v.Sets,a0v.Cols,a0v.Rows,a0v.Seen,a0v.Cond⟩ : weirref07_reader) ba0 y47 y48 y49 y50 y51 y52 y53 y54 y55 y56 y31 y32 y33 y34 y35 y36 y57 y58 hS6 y59 y60 y61 y62 y63 y44 y45 y46 y64 hr11) ?_
   rintro _ w13 ⟨rfl,hS14⟩
   refine ⟨_,rfl,?_⟩
   refine sR 1 [] ?_
   refine runs_end (fn:=Tryz.f31) (v:=.tuple #[]) Tryz.func31 (by kernel_rfl) ?_
   cases Option.some.inj hp12
   exact hR _ _ ⟨rfl,hS14⟩
  have hp16:=ite_f hp4 h8
  refine sR 3 [] ?_
  refine runs_end (fn:=Tryz.f31) (v:=.tuple #[]) Tryz.func31 (by kernel_rfl) ?_
  cases Option.some.inj hp16
  exact hR _ _ ⟨rfl,hS6⟩

noncomputable def cd32 (p : List Nat) : Code := sub (bodyOf Tryz.f32) p
abbrev p32_0:=cd32 [1,0,0]
abbrev td296:List Item:=[.code (cd32 [1,1])]
abbrev td297:List Item:=.code (cd32 [1,0,1])::td296
def weirref07_reader__name.f (a0v : weirref07_reader) : Option (ByteArray × Int × weirref05_Fault) :=
  (if (a0v.F.Code != 0) = true then (weirref07_reader__wrong.f a0v >>= (fun t4 => some (((⟨#[]⟩ : ByteArray),a0v.At,t4)))) else (weirref07_reader__next.f a0v >>= (fun t11 => (if (t11.Kind != 1) = true then (weirref07_reader__wrong.f a0v >>= (fun t28 => some (((⟨#[]⟩ : ByteArray),a0v.At,t28)))) else (weirref07_reader__take.f a0v >>= (fun (t35,t36) => some ((t35.Text,t36,a0v.F))))))))
set_option maxHeartbeats 16000000 in
theorem weirref07_reader__name.ok (a0v : weirref07_reader) (ba0 : Nat) (y47 : Option Addr) (y48 : Nat) (y49 : Option Addr) (y50 : Nat) (y51 : Option Addr) (y52 : Nat) (y53 : Option Addr) (y54 : Nat) (y55 : Option Addr) (y56 : Nat) (y31 : Option Addr) (y32 : Nat) (y33 : Option Addr) (y34 : Nat) (y35 : Option Addr) (y36 : Nat) (y57 : Option Addr) (y58 : Nat) {w0 : World} {Z : Zm} {fs : List XObj} {w : World} (hS0 : St w0 Z (xblk ba0 55 (([.slice y47 a0v.L.length y48] : List Value) ++ (enc_weirref05_Fault a0v.Bad) ++ ([.int .i64 a0v.At] : List Value) ++ (enc_weirref05_Fault a0v.F) ++ ([.string a0v.Test.Name,.string a0v.Test.Doc,.slice y49 a0v.Test.Inits.length y50,.slice y51 a0v.Test.Threads.length y52,.slice y53 a0v.Test.Watch.length y54,.int .i64 a0v.Test.Quant,.slice y55 a0v.Test.Cond.length y56,.slice y31 a0v.Sets.length y32,.slice y33 a0v.Cols.length y34,.slice y35 a0v.Rows.length y36,.slice y57 a0v.Seen.length y58,.int .i64 a0v.Cond] : List Value))::fs) w) (y59 : SlZ (flat enc_api_Token) 7 Z y47 y48 a0v.L) (y60 : SlZ (flat enc_api_Init) 3 Z y49 y50 a0v.Test.Inits) (y61 : SlZ (repL (flat enc_api_Instr) 5) 1 Z y51 y52 a0v.Test.Threads) (y62 : SlZ (flat enc_api_Ref) 2 Z y53 y54 a0v.Test.Watch) (y63 : SlZ (flat enc_api_Node) 6 Z y55 y56 a0v.Test.Cond) (y44 : SlZ (flat enc_api_Token) 7 Z y31 y32 a0v.Sets) (y45 : SlZ (flat enc_api_Token) 7 Z y33 y34 a0v.Cols) (y46 : SlZ (repL (flat enc_api_Token) 7) 1 Z y35 y36 a0v.Rows) (y64 : SlZ (flat enc_api_Token) 7 Z y57 y58 a0v.Seen) {q0 : ByteArray} {q1 : Int} {q2 : weirref05_Fault} (hp0 : weirref07_reader__name.f a0v = some (q0,q1,q2)) :
    Calls Tryz.prog 32 #[.pointer (some ⟨ba0,0,none⟩)] w (fun e w' => e = .returned (.string q0) ∧ St w0 Z (xblk ba0 55 (([.slice y47 a0v.L.length y48] : List Value) ++ (enc_weirref05_Fault a0v.Bad) ++ ([.int .i64 q1] : List Value) ++ (enc_weirref05_Fault q2) ++ ([.string a0v.Test.Name,.string a0v.Test.Doc,.slice y49 a0v.Test.Inits.length y50,.slice y51 a0v.Test.Threads.length y52,.slice y53 a0v.Test.Watch.length y54,.int .i64 a0v.Test.Quant,.slice y55 a0v.Test.Cond.length y56,.slice y31 a0v.Sets.length y32,.slice y33 a0v.Cols.length y34,.slice y35 a0v.Rows.length y36,.slice y57 a0v.Seen.length y58,.int .i64 a0v.Cond] : List Value))::fs) w'):=by
  refine calls_abs ?_; intro R hR
  unfold weirref07_reader__name.f at hp0
  refine calls_of_runs (fn:=Tryz.f32) (c:=cd32 []) Tryz.func32 (by kernel_rfl) (al:=[.pointer (some ⟨ba0,0,none⟩)]) rfl (n:=19) rfl ?_
  refine sR 11 (iR p32_0 4 8::td297) ?_
  refine rL1 3 (.tmp 6) 2 (Cells.mid' (pre:=[.slice y47 a0v.L.length y48] ++ (enc_weirref05_Fault a0v.Bad) ++ [.int .i64 a0v.At]) (cs:=enc_weirref05_Fault a0v.F) (post:=[.string a0v.Test.Name,.string a0v.Test.Doc,.slice y49 a0v.Test.Inits.length y50,.slice y51 a0v.Test.Threads.length y52,.slice y53 a0v.Test.Watch.length y54,.int .i64 a0v.Test.Quant,.slice y55 a0v.Test.Cond.length y56] ++ [.slice y31 a0v.Sets.length y32] ++ [.slice y33 a0v.Cols.length y34] ++ [.slice y35 a0v.Rows.length y36] ++ [.slice y57 a0v.Seen.length y58] ++ [.int .i64 a0v.Cond]) (off:=5) (hS0.blk 0 rfl) (by simp [len_weirref05_Fault,len_weirref05_Fault]) (by simp)) ?_
  refine sS 1 (iR p32_0 6 6::td297) 8 (a0v.F.Code != 0) (fun h1 => ?_) fun h2 => ?_
  ·have hp3:=ite_t hp0 h1
   refine sR 11 (.inRegion (opsOf (cd32 [1,0,1,0,0])) [1]::.code (cd32 [1,0,1,0,1])::td296) ?_
   obtain ⟨t4,hr5,hp6⟩:=bind_some' hp3
   refine rC (weirref07_reader__wrong.ok a0v ba0 y47 y48 y49 y50 y51 y52 y53 y54 y55 y56 y31 y32 y33 y34 y35 y36 y57 y58 hS0 y59 y60 y61 y62 y63 y44 y45 y46 y64 hr5) ?_
   rintro _ w7 ⟨rfl,hS8⟩
   refine ⟨_,rfl,?_⟩
   refine sR 5 (.code (cd32 [1,0,1,0,1,1])::td296) ?_
   refine rR (.string (⟨#[]⟩ : ByteArray)) Tryz.func32 ?_
   cases Option.some.inj hp6
   exact hR _ _ ⟨rfl,hS8⟩
  have hp10:=ite_f hp0 h2
  refine sR 2 (iR p32_0 8 4::td297) ?_
  obtain ⟨t11,hr12,hp13⟩:=bind_some' hp10
  refine rC (weirref07_reader__next.ok a0v ba0 y47 y48 y49 y50 y51 y52 y53 y54 y55 y56 y31 y32 y33 y34 y35 y36 y57 y58 hS0 y59 y60 y61 y62 y63 y44 y45 y46 y64 hr12) ?_
  rintro _ w23 ⟨rfl,hS24⟩
  refine ⟨_,rfl,?_⟩
  refine sS 2 (.inRegion (opsOf p32_0) [11]::td297) 13 (t11.Kind != 1) (fun h25 => ?_) fun h26 => ?_
  ·have hp27:=ite_t hp13 h25
   refine sR 6 (.inRegion (opsOf (cd32 [1,0,1,0,0])) [1]::.code (cd32 [1,0,1,0,1])::td296) ?_
   obtain ⟨t28,hr29,hp30⟩:=bind_some' hp27
   refine rC (weirref07_reader__wrong.ok a0v ba0 y47 y48 y49 y50 y51 y52 y53 y54 y55 y56 y31 y32 y33 y34 y35 y36 y57 y58 hS24 y59 y60 y61 y62 y63 y44 y45 y46 y64 hr29) ?_
   rintro _ w31 ⟨rfl,hS32⟩
   refine ⟨_,rfl,?_⟩
   refine sR 5 (.code (cd32 [1,0,1,0,1,1])::td296) ?_
   refine rR (.string (⟨#[]⟩ : ByteArray)) Tryz.func32 ?_
   cases Option.some.inj hp30
   exact hR _ _ ⟨rfl,hS32⟩
  have hp34:=ite_f hp13 h26
  refine sR 7 [.inRegion (opsOf (cd32 [1,1,0])) [1,2,3],.code (cd32 [1,1,1])] ?_
  obtain ⟨⟨t35,t36⟩,hr37,hp38⟩:=bind_some' hp34
  try dsimp only at hp38
  refine rC (weirref07_reader__take.ok a0v ba0 y47 y48 y49 y50 y51 y52 y53 y54 y55 y56 y31 y32 y33 y34 y35 y36 y57 y58 hS24 y59 y60 y61 y62 y63 y44 y45 y46 y64 hr37) ?_
  rintro _ w39 ⟨rfl,hS40⟩
  refine ⟨_,rfl,?_⟩
  refine sR 3 [.code (cd32 [1,1,1])] ?_
  refine rR (.string t35.Text) Tryz.func32 ?_
  cases Option.some.inj hp38
  exact hR _ _ ⟨rfl,hS40⟩

noncomputable def cd30 (p : List Nat) : Code := sub (bodyOf Tryz.f30) p
def weirref07_reader__place.f (a0v : weirref07_reader) : Option (ByteArray × Int × weirref05_Fault) :=
  (weirref07_reader__must.f a0v (⟨#[91]⟩ : ByteArray) >>= (fun (t1,t2) => (weirref07_reader__name.f (⟨a0v.L,a0v.Bad,t1,t2,a0v.Test,a0v.Sets,a0v.Cols,a0v.Rows,a0v.Seen,a0v.Cond⟩ : weirref07_reader) >>= (fun (t7,t8,t9) => (weirref07_reader__must.f (⟨a0v.L,a0v.Bad,t8,t9,a0v.Test,a0v.Sets,a0v.Cols,a0v.Rows,a0v.Seen,a0v.Cond⟩ : weirref07_reader) (⟨#[93]⟩ : ByteArray) >>= (fun (t14,t15) => some ((t7,t14,t15))))))))
set_option maxHeartbeats 16000000 in
theorem weirref07_reader__place.ok (a0v : weirref07_reader) (ba0 : Nat) (y47 : Option Addr) (y48 : Nat) (y49 : Option Addr) (y50 : Nat) (y51 : Option Addr) (y52 : Nat) (y53 : Option Addr) (y54 : Nat) (y55 : Option Addr) (y56 : Nat) (y31 : Option Addr) (y32 : Nat) (y33 : Option Addr) (y34 : Nat) (y35 : Option Addr) (y36 : Nat) (y57 : Option Addr) (y58 : Nat) {w0 : World} {Z : Zm} {fs : List XObj} {w : World} (hS0 : St w0 Z (xblk ba0 55 (([.slice y47 a0v.L.length y48] : List Value) ++ (enc_weirref05_Fault a0v.Bad) ++ ([.int .i64 a0v.At] : List Value) ++ (enc_weirref05_Fault a0v.F) ++ ([.string a0v.Test.Name,.string a0v.Test.Doc,.slice y49 a0v.Test.Inits.length y50,.slice y51 a0v.Test.Threads.length y52,.slice y53 a0v.Test.Watch.length y54,.int .i64 a0v.Test.Quant,.slice y55 a0v.Test.Cond.length y56,.slice y31 a0v.Sets.length y32,.slice y33 a0v.Cols.length y34,.slice y35 a0v.Rows.length y36,.slice y57 a0v.Seen.length y58,.int .i64 a0v.Cond] : List Value))::fs) w) (y59 : SlZ (flat enc_api_Token) 7 Z y47 y48 a0v.L) (y60 : SlZ (flat enc_api_Init) 3 Z y49 y50 a0v.Test.Inits) (y61 : SlZ (repL (flat enc_api_Instr) 5) 1 Z y51 y52 a0v.Test.Threads) (y62 : SlZ (flat enc_api_Ref) 2 Z y53 y54 a0v.Test.Watch) (y63 : SlZ (flat enc_api_Node) 6 Z y55 y56 a0v.Test.Cond) (y44 : SlZ (flat enc_api_Token) 7 Z y31 y32 a0v.Sets) (y45 : SlZ (flat enc_api_Token) 7 Z y33 y34 a0v.Cols) (y46 : SlZ (repL (flat enc_api_Token) 7) 1 Z y35 y36 a0v.Rows) (y64 : SlZ (flat enc_api_Token) 7 Z y57 y58 a0v.Seen) {q0 : ByteArray} {q1 : Int} {q2 : weirref05_Fault} (hp0 : weirref07_reader__place.f a0v = some (q0,q1,q2)) :
    Calls Tryz.prog 30 #[.pointer (some ⟨ba0,0,none⟩)] w (fun e w' => e = .returned (.string q0) ∧ St w0 Z (xblk ba0 55 (([.slice y47 a0v.L.length y48] : List Value) ++ (enc_weirref05_Fault a0v.Bad) ++ ([.int .i64 q1] : List Value) ++ (enc_weirref05_Fault q2) ++ ([.string a0v.Test.Name,.string a0v.Test.Doc,.slice y49 a0v.Test.Inits.length y50,.slice y51 a0v.Test.Threads.length y52,.slice y53 a0v.Test.Watch.length y54,.int .i64 a0v.Test.Quant,.slice y55 a0v.Test.Cond.length y56,.slice y31 a0v.Sets.length y32,.slice y33 a0v.Cols.length y34,.slice y35 a0v.Rows.length y36,.slice y57 a0v.Seen.length y58,.int .i64 a0v.Cond] : List Value))::fs) w'):=by
  refine calls_abs ?_; intro R hR
  unfold weirref07_reader__place.f at hp0
  refine calls_of_runs (fn:=Tryz.f30) (c:=cd30 []) Tryz.func30 (by kernel_rfl) (al:=[.pointer (some ⟨ba0,0,none⟩)]) rfl (n:=10) rfl ?_
  refine sR 7 [.inRegion (opsOf (cd30 [1,0])) [1],.code (cd30 [1,1])] ?_
  obtain ⟨⟨t1,t2⟩,hr3,hp4⟩:=bind_some' hp0
  try dsimp only at hp4
  refine rC (weirref07_reader__must.ok a0v (⟨#[91]⟩ : ByteArray) ba0 y47 y48 y49 y50 y51 y52 y53 y54 y55 y56 y31 y32 y33 y34 y35 y36 y57 y58 hS0 y59 y60 y61 y62 y63 y44 y45 y46 y64 hr3) ?_
  rintro _ w5 ⟨rfl,hS6⟩
  refine ⟨_,rfl,?_⟩
  refine sR 4 [.inRegion (opsOf (cd30 [1,1,0])) [1,2],.code (cd30 [1,1,1])] ?_
  obtain ⟨⟨t7,t8,t9⟩,hr10,hp11⟩:=bind_some' hp4
  try dsimp only at hp11
  refine rC (weirref07_reader__name.ok (⟨a0v.L,a0v.Bad,t1,t2,a0v.Test,a0v.Sets,a0v.Cols,a0v.Rows,a0v.Seen,a0v.Cond⟩ : weirref07_reader) ba0 y47 y48 y49 y50 y51 y52 y53 y54 y55 y56 y31 y32 y33 y34 y35 y36 y57 y58 hS6 y59 y60 y61 y62 y63 y44 y45 y46 y64 hr10) ?_
  rintro _ w12 ⟨rfl,hS13⟩
  refine ⟨_,rfl,?_⟩
  refine sR 5 [.inRegion (opsOf (cd30 [1,1,1,0])) [1],.code (cd30 [1,1,1,1])] ?_
  obtain ⟨⟨t14,t15⟩,hr16,hp17⟩:=bind_some' hp11
  try dsimp only at hp17
  refine rC (weirref07_reader__must.ok (⟨a0v.L,a0v.Bad,t8,t9,a0v.Test,a0v.Sets,a0v.Cols,a0v.Rows,a0v.Seen,a0v.Cond⟩ : weirref07_reader) (⟨#[93]⟩ : ByteArray) ba0 y47 y48 y49 y50 y51 y52 y53 y54 y55 y56 y31 y32 y33 y34 y35 y36 y57 y58 hS13 y59 y60 y61 y62 y63 y44 y45 y46 y64 hr16) ?_
  rintro _ w18 ⟨rfl,hS19⟩
  refine ⟨_,rfl,?_⟩
  refine sR 6 [.code (cd30 [1,1,1,1,1])] ?_
  refine rR (.string t7) Tryz.func30 ?_
  cases Option.some.inj hp17
  exact hR _ _ ⟨rfl,hS19⟩

noncomputable def cd54 (p : List Nat) : Code := sub (bodyOf Tryz.f54) p
abbrev p54_0:=cd54 [1,0,0]
abbrev td298:List Item:=[.code (cd54 [1,1])]
abbrev td299:List Item:=.code (cd54 [1,0,1])::td298
def weirref07_reader__number.f (a0v : weirref07_reader) : Option (Int × Int × weirref05_Fault) :=
  (if (a0v.F.Code != 0) = true then (weirref07_reader__wrong.f a0v >>= (fun t4 => some ((0,a0v.At,t4)))) else (weirref07_reader__next.f a0v >>= (fun t11 => (if (t11.Kind != 2) = true then (weirref07_reader__wrong.f a0v >>= (fun t28 => some ((0,a0v.At,t28)))) else (weirref07_reader__take.f a0v >>= (fun (t35,t36) => some ((t35.Value,t36,a0v.F))))))))
set_option maxHeartbeats 16000000 in
theorem weirref07_reader__number.ok (a0v : weirref07_reader) (ba0 : Nat) (y47 : Option Addr) (y48 : Nat) (y49 : Option Addr) (y50 : Nat) (y51 : Option Addr) (y52 : Nat) (y53 : Option Addr) (y54 : Nat) (y55 : Option Addr) (y56 : Nat) (y31 : Option Addr) (y32 : Nat) (y33 : Option Addr) (y34 : Nat) (y35 : Option Addr) (y36 : Nat) (y57 : Option Addr) (y58 : Nat) {w0 : World} {Z : Zm} {fs : List XObj} {w : World} (hS0 : St w0 Z (xblk ba0 55 (([.slice y47 a0v.L.length y48] : List Value) ++ (enc_weirref05_Fault a0v.Bad) ++ ([.int .i64 a0v.At] : List Value) ++ (enc_weirref05_Fault a0v.F) ++ ([.string a0v.Test.Name,.string a0v.Test.Doc,.slice y49 a0v.Test.Inits.length y50,.slice y51 a0v.Test.Threads.length y52,.slice y53 a0v.Test.Watch.length y54,.int .i64 a0v.Test.Quant,.slice y55 a0v.Test.Cond.length y56,.slice y31 a0v.Sets.length y32,.slice y33 a0v.Cols.length y34,.slice y35 a0v.Rows.length y36,.slice y57 a0v.Seen.length y58,.int .i64 a0v.Cond] : List Value))::fs) w) (y59 : SlZ (flat enc_api_Token) 7 Z y47 y48 a0v.L) (y60 : SlZ (flat enc_api_Init) 3 Z y49 y50 a0v.Test.Inits) (y61 : SlZ (repL (flat enc_api_Instr) 5) 1 Z y51 y52 a0v.Test.Threads) (y62 : SlZ (flat enc_api_Ref) 2 Z y53 y54 a0v.Test.Watch) (y63 : SlZ (flat enc_api_Node) 6 Z y55 y56 a0v.Test.Cond) (y44 : SlZ (flat enc_api_Token) 7 Z y31 y32 a0v.Sets) (y45 : SlZ (flat enc_api_Token) 7 Z y33 y34 a0v.Cols) (y46 : SlZ (repL (flat enc_api_Token) 7) 1 Z y35 y36 a0v.Rows) (y64 : SlZ (flat enc_api_Token) 7 Z y57 y58 a0v.Seen) {q0 : Int} {q1 : Int} {q2 : weirref05_Fault} (hp0 : weirref07_reader__number.f a0v = some (q0,q1,q2)) :
    Calls Tryz.prog 54 #[.pointer (some ⟨ba0,0,none⟩)] w (fun e w' => e = .returned (.int .i64 q0) ∧ St w0 Z (xblk ba0 55 (([.slice y47 a0v.L.length y48] : List Value) ++ (enc_weirref05_Fault a0v.Bad) ++ ([.int .i64 q1] : List Value) ++ (enc_weirref05_Fault q2) ++ ([.string a0v.Test.Name,.string a0v.Test.Doc,.slice y49 a0v.Test.Inits.length y50,.slice y51 a0v.Test.Threads.length y52,.slice y53 a0v.Test.Watch.length y54,.int .i64 a0v.Test.Quant,.slice y55 a0v.Test.Cond.length y56,.slice y31 a0v.Sets.length y32,.slice y33 a0v.Cols.length y34,.slice y35 a0v.Rows.length y36,.slice y57 a0v.Seen.length y58,.int .i64 a0v.Cond] : List Value))::fs) w'):=by
  refine calls_abs ?_; intro R hR
  unfold weirref07_reader__number.f at hp0
  refine calls_of_runs (fn:=Tryz.f54) (c:=cd54 []) Tryz.func54 (by kernel_rfl) (al:=[.pointer (some ⟨ba0,0,none⟩)]) rfl (n:=19) rfl ?_
  refine sR 11 (iR p54_0 4 8::td299) ?_
  refine rL1 3 (.tmp 6) 2 (Cells.mid' (pre:=[.slice y47 a0v.L.length y48] ++ (enc_weirref05_Fault a0v.Bad) ++ [.int .i64 a0v.At]) (cs:=enc_weirref05_Fault a0v.F) (post:=[.string a0v.Test.Name,.string a0v.Test.Doc,.slice y49 a0v.Test.Inits.length y50,.slice y51 a0v.Test.Threads.length y52,.slice y53 a0v.Test.Watch.length y54,.int .i64 a0v.Test.Quant,.slice y55 a0v.Test.Cond.length y56] ++ [.slice y31 a0v.Sets.length y32] ++ [.slice y33 a0v.Cols.length y34] ++ [.slice y35 a0v.Rows.length y36] ++ [.slice y57 a0v.Seen.length y58] ++ [.int .i64 a0v.Cond]) (off:=5) (hS0.blk 0 rfl) (by simp [len_weirref05_Fault,len_weirref05_Fault]) (by simp)) ?_
  refine sS 1 (iR p54_0 6 6::td299) 8 (a0v.F.Code != 0) (fun h1 => ?_) fun h2 => ?_
  ·have hp3:=ite_t hp0 h1
   refine sR 11 (.inRegion (opsOf (cd54 [1,0,1,0,0])) [1]::.code (cd54 [1,0,1,0,1])::td298) ?_
   obtain ⟨t4,hr5,hp6⟩:=bind_some' hp3
   refine rC (weirref07_reader__wrong.ok a0v ba0 y47 y48 y49 y50 y51 y52 y53 y54 y55 y56 y31 y32 y33 y34 y35 y36 y57 y58 hS0 y59 y60 y61 y62 y63 y44 y45 y46 y64 hr5) ?_
   rintro _ w7 ⟨rfl,hS8⟩
   refine ⟨_,rfl,?_⟩
   refine sR 5 (.code (cd54 [1,0,1,0,1,1])::td298) ?_
   refine rR (.int .i64 0) Tryz.func54 ?_
   cases Option.some.inj hp6
   exact hR _ _ ⟨rfl,hS8⟩
  have hp10:=ite_f hp0 h2
  refine sR 2 (iR p54_0 8 4::td299) ?_
  obtain ⟨t11,hr12,hp13⟩:=bind_some' hp10
  refine rC (weirref07_reader__next.ok a0v ba0 y47 y48 y49 y50 y51 y52 y53 y54 y55 y56 y31 y32 y33 y34 y35 y36 y57 y58 hS0 y59 y60 y61 y62 y63 y44 y45 y46 y64 hr12) ?_
  rintro _ w23 ⟨rfl,hS24⟩
  refine ⟨_,rfl,?_⟩
  refine sS 2 (.inRegion (opsOf p54_0) [11]::td299) 13 (t11.Kind != 2) (fun h25 => ?_) fun h26 => ?_
  ·have hp27:=ite_t hp13 h25
   refine sR 6 (.inRegion (opsOf (cd54 [1,0,1,0,0])) [1]::.code (cd54 [1,0,1,0,1])::td298) ?_
   obtain ⟨t28,hr29,hp30⟩:=bind_some' hp27
   refine rC (weirref07_reader__wrong.ok a0v ba0 y47 y48 y49 y50 y51 y52 y53 y54 y55 y56 y31 y32 y33 y34 y35 y36 y57 y58 hS24 y59 y60 y61 y62 y63 y44 y45 y46 y64 hr29) ?_
   rintro _ w31 ⟨rfl,hS32⟩
   refine ⟨_,rfl,?_⟩
   refine sR 5 (.code (cd54 [1,0,1,0,1,1])::td298) ?_
   refine rR (.int .i64 0) Tryz.func54 ?_
   cases Option.some.inj hp30
   exact hR _ _ ⟨rfl,hS32⟩
  have hp34:=ite_f hp13 h26
  refine sR 7 [.inRegion (opsOf (cd54 [1,1,0])) [1,2,3],.code (cd54 [1,1,1])] ?_
  obtain ⟨⟨t35,t36⟩,hr37,hp38⟩:=bind_some' hp34
  try dsimp only at hp38
  refine rC (weirref07_reader__take.ok a0v ba0 y47 y48 y49 y50 y51 y52 y53 y54 y55 y56 y31 y32 y33 y34 y35 y36 y57 y58 hS24 y59 y60 y61 y62 y63 y44 y45 y46 y64 hr37) ?_
  rintro _ w39 ⟨rfl,hS40⟩
  refine ⟨_,rfl,?_⟩
  refine sR 3 [.code (cd54 [1,1,1])] ?_
  refine rR (.int .i64 t35.Value) Tryz.func54 ?_
  cases Option.some.inj hp38
  exact hR _ _ ⟨rfl,hS40⟩

noncomputable def cd29 (p : List Nat) : Code := sub (bodyOf Tryz.f29) p
abbrev p29_14:=cd29 [1,1,1,1,0,0,1,1,0]
abbrev p29_16:=cd29 [1,1,1,1,0,0,1,1,1,1]
abbrev p29_18:=cd29 [1,1,1,1,0,0,1,1,1,0,1]
abbrev p29_20:=cd29 [1,1,1,1,0,0,1,0,1]
abbrev p29_31:=cd29 [1,0,1,0,1,1,1,1,1]
abbrev p29_34:=cd29 [1,0,1,0,1,1,0,1,0,1,0]
abbrev p29_35:=cd29 [1,0,1,0,1,1,0,1,0,1,1]
abbrev p29_37:=cd29 [1,0,1,0,1,1,0,1,0,1,1,1]
abbrev td300:List Item:=[.code (cd29 [1,1])]
abbrev td301:List Item:=[.code (cd29 [1,1,1,1,1])]
abbrev td302:List Item:=.inBlock 0::td301
abbrev td303:List Item:=.code (cd29 [1,1,1,1,0,0,1,1,1])::td302
abbrev td304:List Item:=.code (cd29 [1,0,1,0,1,1,1])::td300
def weirref07_reader__mov.f (a0v : weirref07_reader) : Option (api_Instr × Int × weirref05_Fault) :=
  (weirref07_reader__sees.f a0v (⟨#[91]⟩ : ByteArray) >>= (fun t5 => (if t5 = true then (weirref07_reader__place.f a0v >>= (fun (t146,t147,t148) => (weirref07_reader__must.f (⟨a0v.L,a0v.Bad,t147,t148,a0v.Test,a0v.Sets,a0v.Cols,a0v.Rows,a0v.Seen,a0v.Cond⟩ : weirref07_reader) (⟨#[44]⟩ : ByteArray) >>= (fun (t159,t160) => (weirref07_reader__is.f (⟨a0v.L,a0v.Bad,t159,t160,a0v.Test,a0v.Sets,a0v.Cols,a0v.Rows,a0v.Seen,a0v.Cond⟩ : weirref07_reader) (⟨#[36]⟩ : ByteArray) >>= (fun (t166,t167) => (if t166 = true then (weirref07_reader__number.f (⟨a0v.L,a0v.Bad,t167,t160,a0v.Test,a0v.Sets,a0v.Cols,a0v.Rows,a0v.Seen,a0v.Cond⟩ : weirref07_reader) >>= (fun (t193,t194,t195) => some (((⟨4,(⟨#[]⟩ : ByteArray),(⟨#[]⟩ : ByteArray),t146,t193⟩ : api_Instr),t194,t195)))) else (weirref07_reader__name.f (⟨a0v.L,a0v.Bad,t167,t160,a0v.Test,a0v.Sets,a0v.Cols,a0v.Rows,a0v.Seen,a0v.Cond⟩ : weirref07_reader) >>= (fun (t173,t174,t175) => some (((⟨5,(⟨#[]⟩ : ByteArray),t173,t146,0⟩ : api_Instr),t174,t175))))))))))) else (weirref07_reader__name.f a0v >>= (fun (t21,t22,t23) => (weirref07_reader__must.f (⟨a0v.L,a0v.Bad,t22,t23,a0v.Test,a0v.Sets,a0v.Cols,a0v.Rows,a0v.Seen,a0v.Cond⟩ : weirref07_reader) (⟨#[44]⟩ : ByteArray) >>= (fun (t34,t35) => (weirref07_reader__is.f (⟨a0v.L,a0v.Bad,t34,t35,a0v.Test,a0v.Sets,a0v.Cols,a0v.Rows,a0v.Seen,a0v.Cond⟩ : weirref07_reader) (⟨#[36]⟩ : ByteArray) >>= (fun (t41,t42) => (((if t41 = true then (weirref07_reader__number.f (⟨a0v.L,a0v.Bad,t42,t35,a0v.Test,a0v.Sets,a0v.Cols,a0v.Rows,a0v.Seen,a0v.Cond⟩ : weirref07_reader) >>= (fun (t131,t132,t133) => some (((⟨1,t21,(⟨#[]⟩ : ByteArray),(⟨#[]⟩ : ByteArray),t131⟩ : api_Instr),t132,t133)))) else (if (t35.Code == 0) = true then (weirref07_reader__sees.f (⟨a0v.L,a0v.Bad,t42,t35,a0v.Test,a0v.Sets,a0v.Cols,a0v.Rows,a0v.Seen,a0v.Cond⟩ : weirref07_reader) (⟨#[91]⟩ : ByteArray) >>= (fun t67 => (if t67 = true then (weirref07_reader__place.f (⟨a0v.L,a0v.Bad,t42,t35,a0v.Test,a0v.Sets,a0v.Cols,a0v.Rows,a0v.Seen,a0v.Cond⟩ : weirref07_reader) >>= (fun (t99,t100,t101) => some (((⟨3,t21,(⟨#[]⟩ : ByteArray),t99,0⟩ : api_Instr),t100,t101)))) else (weirref07_reader__name.f (⟨a0v.L,a0v.Bad,t42,t35,a0v.Test,a0v.Sets,a0v.Cols,a0v.Rows,a0v.Seen,a0v.Cond⟩ : weirref07_reader) >>= (fun (t82,t83,t84) => some (((⟨2,t21,t82,(⟨#[]⟩ : ByteArray),0⟩ : api_Instr),t83,t84))))))) else (weirref07_reader__name.f (⟨a0v.L,a0v.Bad,t42,t35,a0v.Test,a0v.Sets,a0v.Cols,a0v.Rows,a0v.Seen,a0v.Cond⟩ : weirref07_reader) >>= (fun (t114,t115,t116) => some (((⟨2,t21,t114,(⟨#[]⟩ : ByteArray),0⟩ : api_Instr),t115,t116)))))) : Option (api_Instr × Int × weirref05_Fault)) >>= (fun (t50,t51,t52) => some ((t50,t51,t52)))))))))))))
set_option maxHeartbeats 16000000 in
theorem weirref07_reader__mov.ok (a0v : weirref07_reader) (ba0 : Nat) (y47 : Option Addr) (y48 : Nat) (y49 : Option Addr) (y50 : Nat) (y51 : Option Addr) (y52 : Nat) (y53 : Option Addr) (y54 : Nat) (y55 : Option Addr) (y56 : Nat) (y31 : Option Addr) (y32 : Nat) (y33 : Option Addr) (y34 : Nat) (y35 : Option Addr) (y36 : Nat) (y57 : Option Addr) (y58 : Nat) {w0 : World} {Z : Zm} {fs : List XObj} {w : World} (hS0 : St w0 Z (xblk ba0 55 (([.slice y47 a0v.L.length y48] : List Value) ++ (enc_weirref05_Fault a0v.Bad) ++ ([.int .i64 a0v.At] : List Value) ++ (enc_weirref05_Fault a0v.F) ++ ([.string a0v.Test.Name,.string a0v.Test.Doc,.slice y49 a0v.Test.Inits.length y50,.slice y51 a0v.Test.Threads.length y52,.slice y53 a0v.Test.Watch.length y54,.int .i64 a0v.Test.Quant,.slice y55 a0v.Test.Cond.length y56,.slice y31 a0v.Sets.length y32,.slice y33 a0v.Cols.length y34,.slice y35 a0v.Rows.length y36,.slice y57 a0v.Seen.length y58,.int .i64 a0v.Cond] : List Value))::fs) w) (y59 : SlZ (flat enc_api_Token) 7 Z y47 y48 a0v.L) (y60 : SlZ (flat enc_api_Init) 3 Z y49 y50 a0v.Test.Inits) (y61 : SlZ (repL (flat enc_api_Instr) 5) 1 Z y51 y52 a0v.Test.Threads) (y62 : SlZ (flat enc_api_Ref) 2 Z y53 y54 a0v.Test.Watch) (y63 : SlZ (flat enc_api_Node) 6 Z y55 y56 a0v.Test.Cond) (y44 : SlZ (flat enc_api_Token) 7 Z y31 y32 a0v.Sets) (y45 : SlZ (flat enc_api_Token) 7 Z y33 y34 a0v.Cols) (y46 : SlZ (repL (flat enc_api_Token) 7) 1 Z y35 y36 a0v.Rows) (y64 : SlZ (flat enc_api_Token) 7 Z y57 y58 a0v.Seen) {q0 : api_Instr} {q1 : Int} {q2 : weirref05_Fault} (hp0 : weirref07_reader__mov.f a0v = some (q0,q1,q2)) :
    Calls Tryz.prog 29 #[.pointer (some ⟨ba0,0,none⟩)] w (fun e w' => e = .returned (.agg (enc_api_Instr q0).toArray) ∧ St w0 Z (xblk ba0 55 (([.slice y47 a0v.L.length y48] : List Value) ++ (enc_weirref05_Fault a0v.Bad) ++ ([.int .i64 q1] : List Value) ++ (enc_weirref05_Fault q2) ++ ([.string a0v.Test.Name,.string a0v.Test.Doc,.slice y49 a0v.Test.Inits.length y50,.slice y51 a0v.Test.Threads.length y52,.slice y53 a0v.Test.Watch.length y54,.int .i64 a0v.Test.Quant,.slice y55 a0v.Test.Cond.length y56,.slice y31 a0v.Sets.length y32,.slice y33 a0v.Cols.length y34,.slice y35 a0v.Rows.length y36,.slice y57 a0v.Seen.length y58,.int .i64 a0v.Cond] : List Value))::fs) w'):=by
  refine calls_abs ?_; intro R hR
  unfold weirref07_reader__mov.f at hp0
  refine calls_of_runs (fn:=Tryz.f29) (c:=cd29 []) Tryz.func29 (by kernel_rfl) (al:=[.pointer (some ⟨ba0,0,none⟩)]) rfl (n:=53) rfl ?_
  refine sR 2 [.inRegion (opsOf (cd29 [0])) [0],.code (cd29 [1])] ?_
  refine rA 23 (.agg (enc_api_Instr (⟨0,(⟨#[]⟩ : ByteArray),(⟨#[]⟩ : ByteArray),(⟨#[]⟩ : ByteArray),0⟩ : api_Instr)).toArray) (enc_api_Instr (⟨0,(⟨#[]⟩ : ByteArray),(⟨#[]⟩ : ByteArray),(⟨#[]⟩ : ByteArray),0⟩ : api_Instr)) hS0 ?_
  intro b1 w2 hS3
  refine sR 5 (.inRegion (opsOf (cd29 [1,0,0])) [1]::.code (cd29 [1,0,1])::td300) ?_
  obtain ⟨t5,hr6,hp7⟩:=bind_some' hp0
  have hS17:=hS3.pick1
  refine rC (weirref07_reader__sees.ok a0v (⟨#[91]⟩ : ByteArray) ba0 y47 y48 y49 y50 y51 y52 y53 y54 y55 y56 y31 y32 y33 y34 y35 y36 y57 y58 hS17 y59 y60 y61 y62 y63 y44 y45 y46 y64 hr6) ?_
  rintro _ w18 ⟨rfl,hS19⟩
  refine ⟨_,rfl,?_⟩
  refine sR 1 (.code (cd29 [1,0,1])::td300) ?_
  cases t5
  ·have hp20:=ite_f hp7 rfl
   refine sR 5 [iR (cd29 [1,1,0]) 1 4,.code (cd29 [1,1,1])] ?_
   obtain ⟨⟨t21,t22,t23⟩,hr24,hp25⟩:=bind_some' hp20
   try dsimp only at hp25
   refine rC (weirref07_reader__name.ok a0v ba0 y47 y48 y49 y50 y51 y52 y53 y54 y55 y56 y31 y32 y33 y34 y35 y36 y57 y58 hS19 y59 y60 y61 y62 y63 y44 y45 y46 y64 hr24) ?_
   rintro _ w26 ⟨rfl,hS27⟩
   refine ⟨_,rfl,?_⟩
   refine sR 1 [.inRegion (opsOf (cd29 [1,1,0])) [3,4],.code (cd29 [1,1,1])] ?_
   refine rA 23 (.agg (enc_api_Instr (⟨0,(⟨#[]⟩ : ByteArray),(⟨#[]⟩ : ByteArray),(⟨#[]⟩ : ByteArray),0⟩ : api_Instr)).toArray) (enc_api_Instr (⟨0,(⟨#[]⟩ : ByteArray),(⟨#[]⟩ : ByteArray),(⟨#[]⟩ : ByteArray),0⟩ : api_Instr)) hS27 ?_
   intro b28 w29 hS30
   refine rSA 23 (.tmp 4) (.tmp 25) (enc_api_Instr (⟨2,t21,(⟨#[]⟩ : ByteArray),(⟨#[]⟩ : ByteArray),0⟩ : api_Instr)) hS30 (one_api_Instr _) ?_
   intro w32 hS33
   refine sR 4 [.inRegion (opsOf (cd29 [1,1,1,0])) [1],.code (cd29 [1,1,1,1])] ?_
   obtain ⟨⟨t34,t35⟩,hr36,hp37⟩:=bind_some' hp25
   try dsimp only at hp37
   have hS38:=hS33.pick1
   refine rC (weirref07_reader__must.ok (⟨a0v.L,a0v.Bad,t22,t23,a0v.Test,a0v.Sets,a0v.Cols,a0v.Rows,a0v.Seen,a0v.Cond⟩ : weirref07_reader) (⟨#[44]⟩ : ByteArray) ba0 y47 y48 y49 y50 y51 y52 y53 y54 y55 y56 y31 y32 y33 y34 y35 y36 y57 y58 hS38 y59 y60 y61 y62 y63 y44 y45 y46 y64 hr36) ?_
   rintro _ w39 ⟨rfl,hS40⟩
   refine ⟨_,rfl,?_⟩
   refine sR 6 (.inRegion (opsOf (cd29 [1,1,1,1,0,0,0])) [1,2]::.code (cd29 [1,1,1,1,0,0,1])::td302) ?_
   obtain ⟨⟨t41,t42⟩,hr43,hp44⟩:=bind_some' hp37
   try dsimp only at hp44
   refine rC (weirref07_reader__is.ok (⟨a0v.L,a0v.Bad,t34,t35,a0v.Test,a0v.Sets,a0v.Cols,a0v.Rows,a0v.Seen,a0v.Cond⟩ : weirref07_reader) (⟨#[36]⟩ : ByteArray) ba0 y47 y48 y49 y50 y51 y52 y53 y54 y55 y56 y31 y32 y33 y34 y35 y36 y57 y58 hS40 y59 y60 y61 y62 y63 y44 y45 y46 y64 hr43) ?_
   rintro _ w45 ⟨rfl,hS46⟩
   refine ⟨_,rfl,?_⟩
   refine sR 2 (.code (cd29 [1,1,1,1,0,0,1])::td302) ?_
   obtain ⟨v47,hv48,hp49⟩:=bind_some' hp44
   have J55 : ∀ (t50 : api_Instr) (t51 : Int) (t52 : weirref05_Fault) (he57 : (t50,t51,t52) = v47) (l56 : List Value) (w53 : World) (hS54 : St w0 Z (xblk b1 23 (enc_api_Instr (⟨0,(⟨#[]⟩ : ByteArray),(⟨#[]⟩ : ByteArray),(⟨#[]⟩ : ByteArray),0⟩ : api_Instr))::xblk b28 23 (enc_api_Instr t50)::xblk ba0 55 (([.slice y47 a0v.L.length y48] : List Value) ++ (enc_weirref05_Fault a0v.Bad) ++ ([.int .i64 t51] : List Value) ++ (enc_weirref05_Fault t52) ++ ([.string a0v.Test.Name,.string a0v.Test.Doc,.slice y49 a0v.Test.Inits.length y50,.slice y51 a0v.Test.Threads.length y52,.slice y53 a0v.Test.Watch.length y54,.int .i64 a0v.Test.Quant,.slice y55 a0v.Test.Cond.length y56,.slice y31 a0v.Sets.length y32,.slice y33 a0v.Cols.length y34,.slice y35 a0v.Rows.length y36,.slice y57 a0v.Seen.length y58,.int .i64 a0v.Cond] : List Value))::fs) w53),Runs Tryz.prog (fx 29) td301 (fill (mk 54 [(2,.pointer (some ⟨b1,0,none⟩)),(4,.pointer (some ⟨b28,0,none⟩))]) l56) w53 R:=by
    intro t50 t51 t52 he57 l56 w53 hS54
    subst he57
    try dsimp only at hp49
    refine sR 2 [.inRegion (opsOf (cd29 [1,1,1,1,1,0])) [0,1],.code (cd29 [1,1,1,1,1,1])] ?_
    refine rLa 23 (.tmp 4) (hS54.blk 1 rfl) ?_
    refine rSA 23 (.tmp 2) (.tmp 53) (enc_api_Instr t50) hS54 (one_api_Instr _) ?_
    intro w58 hS59
    refine sR 1 [.code (cd29 [1,1,1,1,1,1])] ?_
    have hS60:=hS59.drop
    have hS61:=hS60.drop
    refine rRc (.agg (enc_api_Instr t50).toArray) (.ca 2 23 (hS59.blk 0 rfl) .nil) Tryz.func29 ?_
    cases Option.some.inj hp49
    exact hR _ _ ⟨rfl,hS61⟩
   cases t41
   ·have hp63:=ite_f hv48 rfl
    refine sR 7 (iR p29_14 4 7::td303) ?_
    refine rL1 3 (.tmp 42) 2 (Cells.mid' (pre:=[.slice y47 a0v.L.length y48] ++ (enc_weirref05_Fault a0v.Bad) ++ [.int .i64 t42]) (cs:=enc_weirref05_Fault t35) (post:=[.string a0v.Test.Name,.string a0v.Test.Doc,.slice y49 a0v.Test.Inits.length y50,.slice y51 a0v.Test.Threads.length y52,.slice y53 a0v.Test.Watch.length y54,.int .i64 a0v.Test.Quant,.slice y55 a0v.Test.Cond.length y56] ++ [.slice y31 a0v.Sets.length y32] ++ [.slice y33 a0v.Cols.length y34] ++ [.slice y35 a0v.Rows.length y36] ++ [.slice y57 a0v.Seen.length y58] ++ [.int .i64 a0v.Cond]) (off:=5) (hS46.blk 0 rfl) (by simp [len_weirref05_Fault,len_weirref05_Fault]) (by simp)) ?_
    refine sS 1 (iR p29_14 6 5::td303) 44 (t35.Code == 0) (fun h64 => ?_) fun h65 => ?_
    ·have hp66:=ite_t hp63 h64
     refine sR 2 (.inRegion (opsOf p29_14) [8,9,10]::td303) ?_
     obtain ⟨t67,hr68,hp69⟩:=bind_some' hp66
     refine rC (weirref07_reader__sees.ok (⟨a0v.L,a0v.Bad,t42,t35,a0v.Test,a0v.Sets,a0v.Cols,a0v.Rows,a0v.Seen,a0v.Cond⟩ : weirref07_reader) (⟨#[91]⟩ : ByteArray) ba0 y47 y48 y49 y50 y51 y52 y53 y54 y55 y56 y31 y32 y33 y34 y35 y36 y57 y58 hS46 y59 y60 y61 y62 y63 y44 y45 y46 y64 hr68) ?_
     rintro _ w79 ⟨rfl,hS80⟩
     refine ⟨_,rfl,?_⟩
     refine sR 3 td303 ?_
     cases t67
     ·have hp81:=ite_f hp69 rfl
      refine sR 3 (.inRegion (opsOf p29_16) [1,2,3]::td302) ?_
      obtain ⟨⟨t82,t83,t84⟩,hr85,hp86⟩:=bind_some' hp81
      try dsimp only at hp86
      refine rC (weirref07_reader__name.ok (⟨a0v.L,a0v.Bad,t42,t35,a0v.Test,a0v.Sets,a0v.Cols,a0v.Rows,a0v.Seen,a0v.Cond⟩ : weirref07_reader) ba0 y47 y48 y49 y50 y51 y52 y53 y54 y55 y56 y31 y32 y33 y34 y35 y36 y57 y58 hS80 y59 y60 y61 y62 y63 y44 y45 y46 y64 hr85) ?_
      rintro _ w87 ⟨rfl,hS88⟩
      refine ⟨_,rfl,?_⟩
      refine sR 1 (.inRegion (opsOf p29_16) [3]::td302) ?_
      have hS89:=hS88.pick1
      refine rS 9 (.tmp 30) (.tmp 29) 2 (.string t82) [.string t82] (enc_api_Instr (⟨2,t21,t82,(⟨#[]⟩ : ByteArray),0⟩ : api_Instr)) hS89 ?_
      intro w90 hS91
      refine sR 2 td301 ?_
      have hS92:=hS91.pick1
      have hS93:=hS92.pick1
      have hS94:=hS93.pick2
      refine rF (mk 54 [(2,.pointer (some ⟨b1,0,none⟩)),(4,.pointer (some ⟨b28,0,none⟩))]) ?_
      exact J55 (⟨2,t21,t82,(⟨#[]⟩ : ByteArray),0⟩ : api_Instr) t83 t84 (Option.some.inj hp86) _ _ hS94
     have hp95:=ite_t hp69 rfl
     refine sR 4 (.inRegion (opsOf (cd29 [1,1,1,1,0,0,1,1,1,0,0])) [1]::.code p29_18::td302) ?_
     have hS96:=hS80.pick1
     refine rS 3 (.tmp 49) (.const (.int .i64 3)) 0 (.int .i64 3) [.int .i64 3] (enc_api_Instr (⟨3,t21,(⟨#[]⟩ : ByteArray),(⟨#[]⟩ : ByteArray),0⟩ : api_Instr)) hS96 ?_
     intro w97 hS98
     refine sR 3 (.inRegion (opsOf p29_18) [1,2,3]::td302) ?_
     obtain ⟨⟨t99,t100,t101⟩,hr102,hp103⟩:=bind_some' hp95
     try dsimp only at hp103
     have hS104:=hS98.pick1
     refine rC (weirref07_reader__place.ok (⟨a0v.L,a0v.Bad,t42,t35,a0v.Test,a0v.Sets,a0v.Cols,a0v.Rows,a0v.Seen,a0v.Cond⟩ : weirref07_reader) ba0 y47 y48 y49 y50 y51 y52 y53 y54 y55 y56 y31 y32 y33 y34 y35 y36 y57 y58 hS104 y59 y60 y61 y62 y63 y44 y45 y46 y64 hr102) ?_
     rintro _ w105 ⟨rfl,hS106⟩
     refine ⟨_,rfl,?_⟩
     refine sR 1 (.inRegion (opsOf p29_18) [3]::td302) ?_
     have hS107:=hS106.pick1
     refine rS 9 (.tmp 52) (.tmp 51) 3 (.string t99) [.string t99] (enc_api_Instr (⟨3,t21,(⟨#[]⟩ : ByteArray),t99,0⟩ : api_Instr)) hS107 ?_
     intro w108 hS109
     refine sR 2 td301 ?_
     have hS110:=hS109.pick1
     have hS111:=hS110.pick1
     have hS112:=hS111.pick2
     refine rF (mk 54 [(2,.pointer (some ⟨b1,0,none⟩)),(4,.pointer (some ⟨b28,0,none⟩))]) ?_
     exact J55 (⟨3,t21,(⟨#[]⟩ : ByteArray),t99,0⟩ : api_Instr) t100 t101 (Option.some.inj hp103) _ _ hS112
    have hp113:=ite_f hp63 h65
    refine sR 9 (.inRegion (opsOf p29_16) [1,2,3]::td302) ?_
    obtain ⟨⟨t114,t115,t116⟩,hr117,hp118⟩:=bind_some' hp113
    try dsimp only at hp118
    refine rC (weirref07_reader__name.ok (⟨a0v.L,a0v.Bad,t42,t35,a0v.Test,a0v.Sets,a0v.Cols,a0v.Rows,a0v.Seen,a0v.Cond⟩ : weirref07_reader) ba0 y47 y48 y49 y50 y51 y52 y53 y54 y55 y56 y31 y32 y33 y34 y35 y36 y57 y58 hS46 y59 y60 y61 y62 y63 y44 y45 y46 y64 hr117) ?_
    rintro _ w119 ⟨rfl,hS120⟩
    refine ⟨_,rfl,?_⟩
    refine sR 1 (.inRegion (opsOf p29_16) [3]::td302) ?_
    have hS121:=hS120.pick1
    refine rS 9 (.tmp 30) (.tmp 29) 2 (.string t114) [.string t114] (enc_api_Instr (⟨2,t21,t114,(⟨#[]⟩ : ByteArray),0⟩ : api_Instr)) hS121 ?_
    intro w122 hS123
    refine sR 2 td301 ?_
    have hS124:=hS123.pick1
    have hS125:=hS124.pick1
    have hS126:=hS125.pick2
    refine rF (mk 54 [(2,.pointer (some ⟨b1,0,none⟩)),(4,.pointer (some ⟨b28,0,none⟩))]) ?_
    exact J55 (⟨2,t21,t114,(⟨#[]⟩ : ByteArray),0⟩ : api_Instr) t115 t116 (Option.some.inj hp118) _ _ hS126
   have hp127:=ite_t hv48 rfl
   refine sR 4 (.inRegion (opsOf (cd29 [1,1,1,1,0,0,1,0,0])) [1]::.code p29_20::td302) ?_
   have hS128:=hS46.pick1
   refine rS 3 (.tmp 34) (.const (.int .i64 1)) 0 (.int .i64 1) [.int .i64 1] (enc_api_Instr (⟨1,t21,(⟨#[]⟩ : ByteArray),(⟨#[]⟩ : ByteArray),0⟩ : api_Instr)) hS128 ?_
   intro w129 hS130
   refine sR 3 (.inRegion (opsOf p29_20) [1,2,3]::td302) ?_
   obtain ⟨⟨t131,t132,t133⟩,hr134,hp135⟩:=bind_some' hp127
   try dsimp only at hp135
   have hS136:=hS130.pick1
   refine rC (weirref07_reader__number.ok (⟨a0v.L,a0v.Bad,t42,t35,a0v.Test,a0v.Sets,a0v.Cols,a0v.Rows,a0v.Seen,a0v.Cond⟩ : weirref07_reader) ba0 y47 y48 y49 y50 y51 y52 y53 y54 y55 y56 y31 y32 y33 y34 y35 y36 y57 y58 hS136 y59 y60 y61 y62 y63 y44 y45 y46 y64 hr134) ?_
   rintro _ w137 ⟨rfl,hS138⟩
   refine ⟨_,rfl,?_⟩
   refine sR 1 (.inRegion (opsOf p29_20) [3]::td302) ?_
   have hS139:=hS138.pick1
   refine rS 2 (.tmp 37) (.tmp 36) 4 (.int .i64 t131) [.int .i64 t131] (enc_api_Instr (⟨1,t21,(⟨#[]⟩ : ByteArray),(⟨#[]⟩ : ByteArray),t131⟩ : api_Instr)) hS139 ?_
   intro w140 hS141
   refine sR 2 td301 ?_
   have hS142:=hS141.pick1
   have hS143:=hS142.pick1
   have hS144:=hS143.pick2
   refine rF (mk 54 [(2,.pointer (some ⟨b1,0,none⟩)),(4,.pointer (some ⟨b28,0,none⟩))]) ?_
   exact J55 (⟨1,t21,(⟨#[]⟩ : ByteArray),(⟨#[]⟩ : ByteArray),t131⟩ : api_Instr) t132 t133 (Option.some.inj hp135) _ _ hS144
  have hp145:=ite_t hp7 rfl
  refine sR 4 (iR (cd29 [1,0,1,0,0]) 1 4::.code (cd29 [1,0,1,0,1])::td300) ?_
  obtain ⟨⟨t146,t147,t148⟩,hr149,hp150⟩:=bind_some' hp145
  try dsimp only at hp150
  refine rC (weirref07_reader__place.ok a0v ba0 y47 y48 y49 y50 y51 y52 y53 y54 y55 y56 y31 y32 y33 y34 y35 y36 y57 y58 hS19 y59 y60 y61 y62 y63 y44 y45 y46 y64 hr149) ?_
  rintro _ w151 ⟨rfl,hS152⟩
  refine ⟨_,rfl,?_⟩
  refine sR 1 (.inRegion (opsOf (cd29 [1,0,1,0,0])) [3,4]::.code (cd29 [1,0,1,0,1])::td300) ?_
  refine rA 23 (.agg (enc_api_Instr (⟨0,(⟨#[]⟩ : ByteArray),(⟨#[]⟩ : ByteArray),(⟨#[]⟩ : ByteArray),0⟩ : api_Instr)).toArray) (enc_api_Instr (⟨0,(⟨#[]⟩ : ByteArray),(⟨#[]⟩ : ByteArray),(⟨#[]⟩ : ByteArray),0⟩ : api_Instr)) hS152 ?_
  intro b153 w154 hS155
  refine rSA 23 (.tmp 3) (.tmp 9) (enc_api_Instr (⟨5,(⟨#[]⟩ : ByteArray),(⟨#[]⟩ : ByteArray),t146,0⟩ : api_Instr)) hS155 (one_api_Instr _) ?_
  intro w157 hS158
  refine sR 4 (.inRegion (opsOf (cd29 [1,0,1,0,1,0])) [1]::.code (cd29 [1,0,1,0,1,1])::td300) ?_
  obtain ⟨⟨t159,t160⟩,hr161,hp162⟩:=bind_some' hp150
  try dsimp only at hp162
  have hS163:=hS158.pick1
  refine rC (weirref07_reader__must.ok (⟨a0v.L,a0v.Bad,t147,t148,a0v.Test,a0v.Sets,a0v.Cols,a0v.Rows,a0v.Seen,a0v.Cond⟩ : weirref07_reader) (⟨#[44]⟩ : ByteArray) ba0 y47 y48 y49 y50 y51 y52 y53 y54 y55 y56 y31 y32 y33 y34 y35 y36 y57 y58 hS163 y59 y60 y61 y62 y63 y44 y45 y46 y64 hr161) ?_
  rintro _ w164 ⟨rfl,hS165⟩
  refine ⟨_,rfl,?_⟩
  refine sR 5 (.inRegion (opsOf (cd29 [1,0,1,0,1,1,0,0])) [1]::.code (cd29 [1,0,1,0,1,1,0,1])::td304) ?_
  obtain ⟨⟨t166,t167⟩,hr168,hp169⟩:=bind_some' hp162
  try dsimp only at hp169
  refine rC (weirref07_reader__is.ok (⟨a0v.L,a0v.Bad,t159,t160,a0v.Test,a0v.Sets,a0v.Cols,a0v.Rows,a0v.Seen,a0v.Cond⟩ : weirref07_reader) (⟨#[36]⟩ : ByteArray) ba0 y47 y48 y49 y50 y51 y52 y53 y54 y55 y56 y31 y32 y33 y34 y35 y36 y57 y58 hS165 y59 y60 y61 y62 y63 y44 y45 y46 y64 hr168) ?_
  rintro _ w170 ⟨rfl,hS171⟩
  refine ⟨_,rfl,?_⟩
  refine sR 1 (.code (cd29 [1,0,1,0,1,1,0,1])::td304) ?_
  cases t166
  ·have hp172:=ite_f hp169 rfl
   refine sR 5 (.inRegion (opsOf (cd29 [1,0,1,0,1,1,1,0])) [1,2,3]::.code (cd29 [1,0,1,0,1,1,1,1])::td300) ?_
   obtain ⟨⟨t173,t174,t175⟩,hr176,hp177⟩:=bind_some' hp172
   try dsimp only at hp177
   refine rC (weirref07_reader__name.ok (⟨a0v.L,a0v.Bad,t167,t160,a0v.Test,a0v.Sets,a0v.Cols,a0v.Rows,a0v.Seen,a0v.Cond⟩ : weirref07_reader) ba0 y47 y48 y49 y50 y51 y52 y53 y54 y55 y56 y31 y32 y33 y34 y35 y36 y57 y58 hS171 y59 y60 y61 y62 y63 y44 y45 y46 y64 hr176) ?_
   rintro _ w178 ⟨rfl,hS179⟩
   refine ⟨_,rfl,?_⟩
   refine sR 1 (.inRegion (opsOf (cd29 [1,0,1,0,1,1,1,0])) [3]::.code (cd29 [1,0,1,0,1,1,1,1])::td300) ?_
   have hS180:=hS179.pick1
   refine rS 9 (.tmp 21) (.tmp 20) 2 (.string t173) [.string t173] (enc_api_Instr (⟨5,(⟨#[]⟩ : ByteArray),t173,t146,0⟩ : api_Instr)) hS180 ?_
   intro w181 hS182
   refine sR 3 (.inRegion (opsOf (cd29 [1,0,1,0,1,1,1,1,0])) [0,1]::.code p29_31::td300) ?_
   refine rLa 23 (.tmp 3) (hS182.blk 0 rfl) ?_
   have hS183:=hS182.pick2
   refine rSA 23 (.tmp 2) (.tmp 22) (enc_api_Instr (⟨5,(⟨#[]⟩ : ByteArray),t173,t146,0⟩ : api_Instr)) hS183 (one_api_Instr _) ?_
   intro w184 hS185
   refine sR 1 (.code p29_31::td300) ?_
   have hS186:=hS185.drop
   have hS187:=hS186.drop
   refine rRc (.agg (enc_api_Instr (⟨5,(⟨#[]⟩ : ByteArray),t173,t146,0⟩ : api_Instr)).toArray) (.ca 2 23 (hS185.blk 0 rfl) .nil) Tryz.func29 ?_
   cases Option.some.inj hp177
   exact hR _ _ ⟨rfl,hS187⟩
  have hp189:=ite_t hp169 rfl
  refine sR 4 (.inRegion (opsOf (cd29 [1,0,1,0,1,1,0,1,0,0])) [1]::.code (cd29 [1,0,1,0,1,1,0,1,0,1])::td304) ?_
  have hS190:=hS171.pick1
  refine rS 3 (.tmp 14) (.const (.int .i64 4)) 0 (.int .i64 4) [.int .i64 4] (enc_api_Instr (⟨4,(⟨#[]⟩ : ByteArray),(⟨#[]⟩ : ByteArray),t146,0⟩ : api_Instr)) hS190 ?_
  intro w191 hS192
  refine sR 4 (.inRegion (opsOf p29_34) [1,2,3]::.code p29_35::td304) ?_
  obtain ⟨⟨t193,t194,t195⟩,hr196,hp197⟩:=bind_some' hp189
  try dsimp only at hp197
  have hS198:=hS192.pick1
  refine rC (weirref07_reader__number.ok (⟨a0v.L,a0v.Bad,t167,t160,a0v.Test,a0v.Sets,a0v.Cols,a0v.Rows,a0v.Seen,a0v.Cond⟩ : weirref07_reader) ba0 y47 y48 y49 y50 y51 y52 y53 y54 y55 y56 y31 y32 y33 y34 y35 y36 y57 y58 hS198 y59 y60 y61 y62 y63 y44 y45 y46 y64 hr196) ?_
  rintro _ w199 ⟨rfl,hS200⟩
  refine ⟨_,rfl,?_⟩
  refine sR 1 (.inRegion (opsOf p29_34) [3]::.code p29_35::td304) ?_
  have hS201:=hS200.pick1
  refine rS 2 (.tmp 17) (.tmp 16) 4 (.int .i64 t193) [.int .i64 t193] (enc_api_Instr (⟨4,(⟨#[]⟩ : ByteArray),(⟨#[]⟩ : ByteArray),t146,t193⟩ : api_Instr)) hS201 ?_
  intro w202 hS203
  refine sR 3 (.inRegion (opsOf (cd29 [1,0,1,0,1,1,0,1,0,1,1,0])) [0,1]::.code p29_37::td304) ?_
  refine rLa 23 (.tmp 3) (hS203.blk 0 rfl) ?_
  have hS204:=hS203.pick2
  refine rSA 23 (.tmp 2) (.tmp 18) (enc_api_Instr (⟨4,(⟨#[]⟩ : ByteArray),(⟨#[]⟩ : ByteArray),t146,t193⟩ : api_Instr)) hS204 (one_api_Instr _) ?_
  intro w205 hS206
  refine sR 1 (.code p29_37::td304) ?_
  have hS207:=hS206.drop
  have hS208:=hS207.drop
  refine rRc (.agg (enc_api_Instr (⟨4,(⟨#[]⟩ : ByteArray),(⟨#[]⟩ : ByteArray),t146,t193⟩ : api_Instr)).toArray) (.ca 2 23 (hS206.blk 0 rfl) .nil) Tryz.func29 ?_
  cases Option.some.inj hp197
  exact hR _ _ ⟨rfl,hS208⟩

noncomputable def cd13 (p : List Nat) : Code := sub (bodyOf Tryz.f13) p
abbrev p13_8:=cd13 [1,0,0,1,1,1,1,1]
abbrev p13_10:=cd13 [1,0,0,1,1,1,1,1,1,1]
abbrev p13_15:=cd13 [1,0,0,1,1,1,1,1,1,1,0,1,0,0]
abbrev p13_16:=cd13 [1,0,0,1,1,1,1,1,1,1,0,1,0,1]
abbrev p13_18:=cd13 [1,0,0,1,1,1,1,1,1,1,0,1,1,0]
abbrev p13_19:=cd13 [1,0,0,1,1,1,1,1,1,1,0,1,1,1]
abbrev p13_26:=cd13 [1,0,0,1,1,1,1,1,1,1,0,1,1,1,1,1,1,1]
abbrev p13_32:=cd13 [1,0,0,1,1,1,1,1,0,0]
abbrev p13_33:=cd13 [1,0,0,1,1,1,1,1,0,1]
abbrev p13_36:=cd13 [1,0,0,1,1,1,1,1,0,1,1,0]
abbrev p13_37:=cd13 [1,0,0,1,1,1,1,1,0,1,1,1]
abbrev p13_39:=cd13 [1,0,0,1,1,1,1,1,0,1,1,1,1]
abbrev td305:List Item:=[.code (cd13 [1,1])]
abbrev td306:List Item:=.inBlock 0::td305
abbrev td307:List Item:=.code (cd13 [1,0,0,1,1,1,1,1,1,1,0,1,1])::td306
abbrev td308:List Item:=.code (cd13 [1,0,0,1,1,1,1,1,1,1,0,1,1,1,1,1,1])::td306
def weirref07_reader__instr.f (a0v : weirref07_reader) : Option (api_Instr × Int × weirref05_Fault) :=
  (weirref07_reader__is.f a0v (⟨#[77,79,86]⟩ : ByteArray) >>= (fun (t5,t6) => (if t5 = true then (weirref07_reader__mov.f (⟨a0v.L,a0v.Bad,t6,a0v.F,a0v.Test,a0v.Sets,a0v.Cols,a0v.Rows,a0v.Seen,a0v.Cond⟩ : weirref07_reader) >>= (fun (t173,t174,t175) => some ((t173,t174,t175)))) else (weirref07_reader__is.f (⟨a0v.L,a0v.Bad,t6,a0v.F,a0v.Test,a0v.Sets,a0v.Cols,a0v.Rows,a0v.Seen,a0v.Cond⟩ : weirref07_reader) (⟨#[77,70,69,78,67,69]⟩ : ByteArray) >>= (fun (t13,t14) => (if t13 = true then some (((⟨6,(⟨#[]⟩ : ByteArray),(⟨#[]⟩ : ByteArray),(⟨#[]⟩ : ByteArray),0⟩ : api_Instr),t14,a0v.F)) else (weirref07_reader__is.f (⟨a0v.L,a0v.Bad,t14,a0v.F,a0v.Test,a0v.Sets,a0v.Cols,a0v.Rows,a0v.Seen,a0v.Cond⟩ : weirref07_reader) (⟨#[88,67,72,71]⟩ : ByteArray) >>= (fun (t20,t21) => (if t20 = true then (weirref07_reader__place.f (⟨a0v.L,a0v.Bad,t21,a0v.F,a0v.Test,a0v.Sets,a0v.Cols,a0v.Rows,a0v.Seen,a0v.Cond⟩ : weirref07_reader) >>= (fun (t130,t131,t132) => (weirref07_reader__must.f (⟨a0v.L,a0v.Bad,t131,t132,a0v.Test,a0v.Sets,a0v.Cols,a0v.Rows,a0v.Seen,a0v.Cond⟩ : weirref07_reader) (⟨#[44]⟩ : ByteArray) >>= (fun (t143,t144) => (weirref07_reader__name.f (⟨a0v.L,a0v.Bad,t143,t144,a0v.Test,a0v.Sets,a0v.Cols,a0v.Rows,a0v.Seen,a0v.Cond⟩ : weirref07_reader) >>= (fun (t150,t151,t152) => some (((⟨7,t150,(⟨#[]⟩ : ByteArray),t130,0⟩ : api_Instr),t151,t152)))))))) else (weirref07_reader__is.f (⟨a0v.L,a0v.Bad,t21,a0v.F,a0v.Test,a0v.Sets,a0v.Cols,a0v.Rows,a0v.Seen,a0v.Cond⟩ : weirref07_reader) (⟨#[76,79,67,75]⟩ : ByteArray) >>= (fun (t27,t28) => (if t27 = true then (weirref07_reader__is.f (⟨a0v.L,a0v.Bad,t28,a0v.F,a0v.Test,a0v.Sets,a0v.Cols,a0v.Rows,a0v.Seen,a0v.Cond⟩ : weirref07_reader) (⟨#[67,77,80,88,67,72,71]⟩ : ByteArray) >>= (fun (t45,t46) => (((if (!t45) = true then (weirref07_reader__must.f (⟨a0v.L,a0v.Bad,t46,a0v.F,a0v.Test,a0v.Sets,a0v.Cols,a0v.Rows,a0v.Seen,a0v.Cond⟩ : weirref07_reader) (⟨#[88,65,68,68]⟩ : ByteArray) >>= (fun (t122,t123) => some ((9,t122,t123)))) else some ((8,t46,a0v.F))) : Option (Int × Int × weirref05_Fault)) >>= (fun (t54,t55,t56) => (weirref07_reader__place.f (⟨a0v.L,a0v.Bad,t55,t56,a0v.Test,a0v.Sets,a0v.Cols,a0v.Rows,a0v.Seen,a0v.Cond⟩ : weirref07_reader) >>= (fun (t62,t63,t64) => (weirref07_reader__must.f (⟨a0v.L,a0v.Bad,t63,t64,a0v.Test,a0v.Sets,a0v.Cols,a0v.Rows,a0v.Seen,a0v.Cond⟩ : weirref07_reader) (⟨#[44]⟩ : ByteArray) >>= (fun (t75,t76) => (weirref07_reader__name.f (⟨a0v.L,a0v.Bad,t75,t76,a0v.Test,a0v.Sets,a0v.Cols,a0v.Rows,a0v.Seen,a0v.Cond⟩ : weirref07_reader) >>= (fun (t82,t83,t84) => (((if (t54 == 8) = true then some ((⟨t54,(⟨#[]⟩ : ByteArray),t82,t62,0⟩ : api_Instr)) else some ((⟨t54,t82,(⟨#[]⟩ : ByteArray),t62,0⟩ : api_Instr))) : Option api_Instr) >>= (fun t92 => some ((t92,t83,t84)))))))))))))) else (weirref07_reader__wrong.f (⟨a0v.L,a0v.Bad,t28,a0v.F,a0v.Test,a0v.Sets,a0v.Cols,a0v.Rows,a0v.Seen,a0v.Cond⟩ : weirref07_reader) >>= (fun t34 => some (((⟨0,(⟨#[]⟩ : ByteArray),(⟨#[]⟩ : ByteArray),(⟨#[]⟩ : ByteArray),0⟩ : api_Instr),t28,t34))))))))))))))))
set_option maxHeartbeats 16000000 in
theorem weirref07_reader__instr.ok (a0v : weirref07_reader) (ba0 : Nat) (y47 : Option Addr) (y48 : Nat) (y49 : Option Addr) (y50 : Nat) (y51 : Option Addr) (y52 : Nat) (y53 : Option Addr) (y54 : Nat) (y55 : Option Addr) (y56 : Nat) (y31 : Option Addr) (y32 : Nat) (y33 : Option Addr) (y34 : Nat) (y35 : Option Addr) (y36 : Nat) (y57 : Option Addr) (y58 : Nat) {w0 : World} {Z : Zm} {fs : List XObj} {w : World} (hS0 : St w0 Z (xblk ba0 55 (([.slice y47 a0v.L.length y48] : List Value) ++ (enc_weirref05_Fault a0v.Bad) ++ ([.int .i64 a0v.At] : List Value) ++ (enc_weirref05_Fault a0v.F) ++ ([.string a0v.Test.Name,.string a0v.Test.Doc,.slice y49 a0v.Test.Inits.length y50,.slice y51 a0v.Test.Threads.length y52,.slice y53 a0v.Test.Watch.length y54,.int .i64 a0v.Test.Quant,.slice y55 a0v.Test.Cond.length y56,.slice y31 a0v.Sets.length y32,.slice y33 a0v.Cols.length y34,.slice y35 a0v.Rows.length y36,.slice y57 a0v.Seen.length y58,.int .i64 a0v.Cond] : List Value))::fs) w) (y59 : SlZ (flat enc_api_Token) 7 Z y47 y48 a0v.L) (y60 : SlZ (flat enc_api_Init) 3 Z y49 y50 a0v.Test.Inits) (y61 : SlZ (repL (flat enc_api_Instr) 5) 1 Z y51 y52 a0v.Test.Threads) (y62 : SlZ (flat enc_api_Ref) 2 Z y53 y54 a0v.Test.Watch) (y63 : SlZ (flat enc_api_Node) 6 Z y55 y56 a0v.Test.Cond) (y44 : SlZ (flat enc_api_Token) 7 Z y31 y32 a0v.Sets) (y45 : SlZ (flat enc_api_Token) 7 Z y33 y34 a0v.Cols) (y46 : SlZ (repL (flat enc_api_Token) 7) 1 Z y35 y36 a0v.Rows) (y64 : SlZ (flat enc_api_Token) 7 Z y57 y58 a0v.Seen) {q0 : api_Instr} {q1 : Int} {q2 : weirref05_Fault} (hp0 : weirref07_reader__instr.f a0v = some (q0,q1,q2)) :
    Calls Tryz.prog 13 #[.pointer (some ⟨ba0,0,none⟩)] w (fun e w' => e = .returned (.agg (enc_api_Instr q0).toArray) ∧ St w0 Z (xblk ba0 55 (([.slice y47 a0v.L.length y48] : List Value) ++ (enc_weirref05_Fault a0v.Bad) ++ ([.int .i64 q1] : List Value) ++ (enc_weirref05_Fault q2) ++ ([.string a0v.Test.Name,.string a0v.Test.Doc,.slice y49 a0v.Test.Inits.length y50,.slice y51 a0v.Test.Threads.length y52,.slice y53 a0v.Test.Watch.length y54,.int .i64 a0v.Test.Quant,.slice y55 a0v.Test.Cond.length y56,.slice y31 a0v.Sets.length y32,.slice y33 a0v.Cols.length y34,.slice y35 a0v.Rows.length y36,.slice y57 a0v.Seen.length y58,.int .i64 a0v.Cond] : List Value))::fs) w'):=by
  refine calls_abs ?_; intro R hR
  unfold weirref07_reader__instr.f at hp0
  refine calls_of_runs (fn:=Tryz.f13) (c:=cd13 []) Tryz.func13 (by kernel_rfl) (al:=[.pointer (some ⟨ba0,0,none⟩)]) rfl (n:=53) rfl ?_
  refine sR 2 [.inRegion (opsOf (cd13 [0])) [0],.code (cd13 [1])] ?_
  refine rA 23 (.agg (enc_api_Instr (⟨0,(⟨#[]⟩ : ByteArray),(⟨#[]⟩ : ByteArray),(⟨#[]⟩ : ByteArray),0⟩ : api_Instr)).toArray) (enc_api_Instr (⟨0,(⟨#[]⟩ : ByteArray),(⟨#[]⟩ : ByteArray),(⟨#[]⟩ : ByteArray),0⟩ : api_Instr)) hS0 ?_
  intro b1 w2 hS3
  refine sR 6 (.inRegion (opsOf (cd13 [1,0,0,0])) [1,2]::.code (cd13 [1,0,0,1])::td306) ?_
  obtain ⟨⟨t5,t6⟩,hr7,hp8⟩:=bind_some' hp0
  try dsimp only at hp8
  have hS9:=hS3.pick1
  refine rC (weirref07_reader__is.ok a0v (⟨#[77,79,86]⟩ : ByteArray) ba0 y47 y48 y49 y50 y51 y52 y53 y54 y55 y56 y31 y32 y33 y34 y35 y36 y57 y58 hS9 y59 y60 y61 y62 y63 y44 y45 y46 y64 hr7) ?_
  rintro _ w10 ⟨rfl,hS11⟩
  refine ⟨_,rfl,?_⟩
  refine sR 2 (.code (cd13 [1,0,0,1])::td306) ?_
  cases t5
  ·have hp12:=ite_f hp8 rfl
   refine sR 4 (.inRegion (opsOf (cd13 [1,0,0,1,1,0])) [1,2]::.code (cd13 [1,0,0,1,1,1])::td306) ?_
   obtain ⟨⟨t13,t14⟩,hr15,hp16⟩:=bind_some' hp12
   try dsimp only at hp16
   refine rC (weirref07_reader__is.ok (⟨a0v.L,a0v.Bad,t6,a0v.F,a0v.Test,a0v.Sets,a0v.Cols,a0v.Rows,a0v.Seen,a0v.Cond⟩ : weirref07_reader) (⟨#[77,70,69,78,67,69]⟩ : ByteArray) ba0 y47 y48 y49 y50 y51 y52 y53 y54 y55 y56 y31 y32 y33 y34 y35 y36 y57 y58 hS11 y59 y60 y61 y62 y63 y44 y45 y46 y64 hr15) ?_
   rintro _ w17 ⟨rfl,hS18⟩
   refine ⟨_,rfl,?_⟩
   refine sR 2 (.code (cd13 [1,0,0,1,1,1])::td306) ?_
   cases t13
   ·have hp19:=ite_f hp16 rfl
    refine sR 4 (.inRegion (opsOf (cd13 [1,0,0,1,1,1,1,0])) [1,2]::.code p13_8::td306) ?_
    obtain ⟨⟨t20,t21⟩,hr22,hp23⟩:=bind_some' hp19
    try dsimp only at hp23
    refine rC (weirref07_reader__is.ok (⟨a0v.L,a0v.Bad,t14,a0v.F,a0v.Test,a0v.Sets,a0v.Cols,a0v.Rows,a0v.Seen,a0v.Cond⟩ : weirref07_reader) (⟨#[88,67,72,71]⟩ : ByteArray) ba0 y47 y48 y49 y50 y51 y52 y53 y54 y55 y56 y31 y32 y33 y34 y35 y36 y57 y58 hS18 y59 y60 y61 y62 y63 y44 y45 y46 y64 hr22) ?_
    rintro _ w24 ⟨rfl,hS25⟩
    refine ⟨_,rfl,?_⟩
    refine sR 2 (.code p13_8::td306) ?_
    cases t20
    ·have hp26:=ite_f hp23 rfl
     refine sR 4 (.inRegion (opsOf (cd13 [1,0,0,1,1,1,1,1,1,0])) [1,2]::.code p13_10::td306) ?_
     obtain ⟨⟨t27,t28⟩,hr29,hp30⟩:=bind_some' hp26
     try dsimp only at hp30
     refine rC (weirref07_reader__is.ok (⟨a0v.L,a0v.Bad,t21,a0v.F,a0v.Test,a0v.Sets,a0v.Cols,a0v.Rows,a0v.Seen,a0v.Cond⟩ : weirref07_reader) (⟨#[76,79,67,75]⟩ : ByteArray) ba0 y47 y48 y49 y50 y51 y52 y53 y54 y55 y56 y31 y32 y33 y34 y35 y36 y57 y58 hS25 y59 y60 y61 y62 y63 y44 y45 y46 y64 hr29) ?_
     rintro _ w31 ⟨rfl,hS32⟩
     refine ⟨_,rfl,?_⟩
     refine sR 2 (.code p13_10::td306) ?_
     cases t27
     ·have hp33:=ite_f hp30 rfl
      refine sR 6 [.inRegion (opsOf (cd13 [1,1,0])) [1],.code (cd13 [1,1,1])] ?_
      obtain ⟨t34,hr35,hp36⟩:=bind_some' hp33
      refine rC (weirref07_reader__wrong.ok (⟨a0v.L,a0v.Bad,t28,a0v.F,a0v.Test,a0v.Sets,a0v.Cols,a0v.Rows,a0v.Seen,a0v.Cond⟩ : weirref07_reader) ba0 y47 y48 y49 y50 y51 y52 y53 y54 y55 y56 y31 y32 y33 y34 y35 y36 y57 y58 hS32 y59 y60 y61 y62 y63 y44 y45 y46 y64 hr35) ?_
      rintro _ w37 ⟨rfl,hS38⟩
      refine ⟨_,rfl,?_⟩
      refine sR 4 [.inRegion (opsOf (cd13 [1,1,1,0])) [1],.code (cd13 [1,1,1,1])] ?_
      have hS39:=hS38.pick1
      refine rSA 23 (.tmp 2) (.tmp 53) (enc_api_Instr (⟨0,(⟨#[]⟩ : ByteArray),(⟨#[]⟩ : ByteArray),(⟨#[]⟩ : ByteArray),0⟩ : api_Instr)) hS39 (one_api_Instr _) ?_
      intro w40 hS41
      refine sR 1 [.code (cd13 [1,1,1,1])] ?_
      have hS42:=hS41.drop
      refine rRc (.agg (enc_api_Instr (⟨0,(⟨#[]⟩ : ByteArray),(⟨#[]⟩ : ByteArray),(⟨#[]⟩ : ByteArray),0⟩ : api_Instr)).toArray) (.ca 2 23 (hS41.blk 0 rfl) .nil) Tryz.func13 ?_
      cases Option.some.inj hp36
      exact hR _ _ ⟨rfl,hS42⟩
     have hp44:=ite_t hp30 rfl
     refine sR 9 (.inRegion (opsOf p13_15) [1,2]::.code p13_16::td307) ?_
     obtain ⟨⟨t45,t46⟩,hr47,hp48⟩:=bind_some' hp44
     try dsimp only at hp48
     refine rC (weirref07_reader__is.ok (⟨a0v.L,a0v.Bad,t28,a0v.F,a0v.Test,a0v.Sets,a0v.Cols,a0v.Rows,a0v.Seen,a0v.Cond⟩ : weirref07_reader) (⟨#[67,77,80,88,67,72,71]⟩ : ByteArray) ba0 y47 y48 y49 y50 y51 y52 y53 y54 y55 y56 y31 y32 y33 y34 y35 y36 y57 y58 hS32 y59 y60 y61 y62 y63 y44 y45 y46 y64 hr47) ?_
     rintro _ w49 ⟨rfl,hS50⟩
     refine ⟨_,rfl,?_⟩
     obtain ⟨v51,hv52,hp53⟩:=bind_some' hp48
     have J59 : ∀ (t54 : Int) (t55 : Int) (t56 : weirref05_Fault) (he61 : (t54,t55,t56) = v51) (l60 : List Value) (w57 : World) (hS58 : St w0 Z (xblk ba0 55 (([.slice y47 a0v.L.length y48] : List Value) ++ (enc_weirref05_Fault a0v.Bad) ++ ([.int .i64 t55] : List Value) ++ (enc_weirref05_Fault t56) ++ ([.string a0v.Test.Name,.string a0v.Test.Doc,.slice y49 a0v.Test.Inits.length y50,.slice y51 a0v.Test.Threads.length y52,.slice y53 a0v.Test.Watch.length y54,.int .i64 a0v.Test.Quant,.slice y55 a0v.Test.Cond.length y56,.slice y31 a0v.Sets.length y32,.slice y33 a0v.Cols.length y34,.slice y35 a0v.Rows.length y36,.slice y57 a0v.Seen.length y58,.int .i64 a0v.Cond] : List Value))::xblk b1 23 (enc_api_Instr (⟨0,(⟨#[]⟩ : ByteArray),(⟨#[]⟩ : ByteArray),(⟨#[]⟩ : ByteArray),0⟩ : api_Instr))::fs) w57),Runs Tryz.prog (fx 13) td307 (fill (mk 54 [(0,.pointer (some ⟨ba0,0,none⟩)),(2,.pointer (some ⟨b1,0,none⟩)),(4,.int .i64 t54)]) l60) w57 R:=by
      intro t54 t55 t56 he61 l60 w57 hS58
      subst he61
      try dsimp only at hp53
      refine sR 4 (iR p13_18 2 4::.code p13_19::td306) ?_
      obtain ⟨⟨t62,t63,t64⟩,hr65,hp66⟩:=bind_some' hp53
      try dsimp only at hp66
      refine rC (weirref07_reader__place.ok (⟨a0v.L,a0v.Bad,t55,t56,a0v.Test,a0v.Sets,a0v.Cols,a0v.Rows,a0v.Seen,a0v.Cond⟩ : weirref07_reader) ba0 y47 y48 y49 y50 y51 y52 y53 y54 y55 y56 y31 y32 y33 y34 y35 y36 y57 y58 hS58 y59 y60 y61 y62 y63 y44 y45 y46 y64 hr65) ?_
      rintro _ w67 ⟨rfl,hS68⟩
      refine ⟨_,rfl,?_⟩
      refine sR 1 (.inRegion (opsOf p13_18) [4,5]::.code p13_19::td306) ?_
      refine rA 23 (.agg (enc_api_Instr (⟨0,(⟨#[]⟩ : ByteArray),(⟨#[]⟩ : ByteArray),(⟨#[]⟩ : ByteArray),0⟩ : api_Instr)).toArray) (enc_api_Instr (⟨0,(⟨#[]⟩ : ByteArray),(⟨#[]⟩ : ByteArray),(⟨#[]⟩ : ByteArray),0⟩ : api_Instr)) hS68 ?_
      intro b69 w70 hS71
      refine rSA 23 (.tmp 5) (.tmp 39) (enc_api_Instr (⟨t54,(⟨#[]⟩ : ByteArray),(⟨#[]⟩ : ByteArray),t62,0⟩ : api_Instr)) hS71 (one_api_Instr _) ?_
      intro w73 hS74
      refine sR 4 (.inRegion (opsOf (cd13 [1,0,0,1,1,1,1,1,1,1,0,1,1,1,0])) [1]::.code (cd13 [1,0,0,1,1,1,1,1,1,1,0,1,1,1,1])::td306) ?_
      obtain ⟨⟨t75,t76⟩,hr77,hp78⟩:=bind_some' hp66
      try dsimp only at hp78
      have hS79:=hS74.pick1
      refine rC (weirref07_reader__must.ok (⟨a0v.L,a0v.Bad,t63,t64,a0v.Test,a0v.Sets,a0v.Cols,a0v.Rows,a0v.Seen,a0v.Cond⟩ : weirref07_reader) (⟨#[44]⟩ : ByteArray) ba0 y47 y48 y49 y50 y51 y52 y53 y54 y55 y56 y31 y32 y33 y34 y35 y36 y57 y58 hS79 y59 y60 y61 y62 y63 y44 y45 y46 y64 hr77) ?_
      rintro _ w80 ⟨rfl,hS81⟩
      refine ⟨_,rfl,?_⟩
      refine sR 4 (.inRegion (opsOf (cd13 [1,0,0,1,1,1,1,1,1,1,0,1,1,1,1,0])) [1,2]::.code (cd13 [1,0,0,1,1,1,1,1,1,1,0,1,1,1,1,1])::td306) ?_
      obtain ⟨⟨t82,t83,t84⟩,hr85,hp86⟩:=bind_some' hp78
      try dsimp only at hp86
      refine rC (weirref07_reader__name.ok (⟨a0v.L,a0v.Bad,t75,t76,a0v.Test,a0v.Sets,a0v.Cols,a0v.Rows,a0v.Seen,a0v.Cond⟩ : weirref07_reader) ba0 y47 y48 y49 y50 y51 y52 y53 y54 y55 y56 y31 y32 y33 y34 y35 y36 y57 y58 hS81 y59 y60 y61 y62 y63 y44 y45 y46 y64 hr85) ?_
      rintro _ w87 ⟨rfl,hS88⟩
      refine ⟨_,rfl,?_⟩
      obtain ⟨v89,hv90,hp91⟩:=bind_some' hp86
      have J95 : ∀ (t92 : api_Instr) (he97 : t92 = v89) (l96 : List Value) (w93 : World) (hS94 : St w0 Z (xblk b1 23 (enc_api_Instr (⟨0,(⟨#[]⟩ : ByteArray),(⟨#[]⟩ : ByteArray),(⟨#[]⟩ : ByteArray),0⟩ : api_Instr))::xblk b69 23 (enc_api_Instr t92)::xblk ba0 55 (([.slice y47 a0v.L.length y48] : List Value) ++ (enc_weirref05_Fault a0v.Bad) ++ ([.int .i64 t83] : List Value) ++ (enc_weirref05_Fault t84) ++ ([.string a0v.Test.Name,.string a0v.Test.Doc,.slice y49 a0v.Test.Inits.length y50,.slice y51 a0v.Test.Threads.length y52,.slice y53 a0v.Test.Watch.length y54,.int .i64 a0v.Test.Quant,.slice y55 a0v.Test.Cond.length y56,.slice y31 a0v.Sets.length y32,.slice y33 a0v.Cols.length y34,.slice y35 a0v.Rows.length y36,.slice y57 a0v.Seen.length y58,.int .i64 a0v.Cond] : List Value))::fs) w93),Runs Tryz.prog (fx 13) td308 (fill (mk 54 [(2,.pointer (some ⟨b1,0,none⟩)),(5,.pointer (some ⟨b69,0,none⟩))]) l96) w93 R:=by
       intro t92 he97 l96 w93 hS94
       subst he97
       try dsimp only at hp91
       refine sR 2 (.inRegion (opsOf (cd13 [1,0,0,1,1,1,1,1,1,1,0,1,1,1,1,1,1,0])) [0,1]::.code p13_26::td306) ?_
       refine rLa 23 (.tmp 5) (hS94.blk 1 rfl) ?_
       refine rSA 23 (.tmp 2) (.tmp 50) (enc_api_Instr t92) hS94 (one_api_Instr _) ?_
       intro w98 hS99
       refine sR 1 (.code p13_26::td306) ?_
       refine r_isret (c:=p13_26) (by kernel_rfl) ?_
       have hS100:=hS99.drop
       have hS101:=hS100.drop
       refine rRc (.agg (enc_api_Instr t92).toArray) (.ca 2 23 (hS99.blk 0 rfl) .nil) Tryz.func13 ?_
       cases Option.some.inj hp91
       exact hR _ _ ⟨rfl,hS101⟩
      refine sS 7 (.inRegion (opsOf (cd13 [1,0,0,1,1,1,1,1,1,1,0,1,1,1,1,1,0,0])) []::.code (cd13 [1,0,0,1,1,1,1,1,1,1,0,1,1,1,1,1,0,1])::td308) 45 (t54 == 8) (fun h103 => ?_) fun h104 => ?_
      ·have hp105:=ite_t hv90 h103
       refine sR 5 (.inRegion (opsOf (cd13 [1,0,0,1,1,1,1,1,1,1,0,1,1,1,1,1,0,1,0])) [2]::td308) ?_
       have hS106:=hS88.pick1
       refine rS 9 (.tmp 47) (.tmp 46) 2 (.string t82) [.string t82] (enc_api_Instr (⟨t54,(⟨#[]⟩ : ByteArray),t82,t62,0⟩ : api_Instr)) hS106 ?_
       intro w107 hS108
       refine sR 1 td308 ?_
       have hS109:=hS108.pick1
       have hS110:=hS109.pick1
       have hS111:=hS110.pick2
       refine rF (mk 54 [(2,.pointer (some ⟨b1,0,none⟩)),(5,.pointer (some ⟨b69,0,none⟩))]) ?_
       exact J95 (⟨t54,(⟨#[]⟩ : ByteArray),t82,t62,0⟩ : api_Instr) (Option.some.inj hp105) _ _ hS111
      have hp112:=ite_f hv90 h104
      refine sR 5 (.inRegion (opsOf (cd13 [1,0,0,1,1,1,1,1,1,1,0,1,1,1,1,1,0,1,1])) [2]::td308) ?_
      have hS113:=hS88.pick1
      refine rS 9 (.tmp 49) (.tmp 48) 1 (.string t82) [.string t82] (enc_api_Instr (⟨t54,t82,(⟨#[]⟩ : ByteArray),t62,0⟩ : api_Instr)) hS113 ?_
      intro w114 hS115
      refine sR 1 td308 ?_
      have hS116:=hS115.pick1
      have hS117:=hS116.pick1
      have hS118:=hS117.pick2
      refine rF (mk 54 [(2,.pointer (some ⟨b1,0,none⟩)),(5,.pointer (some ⟨b69,0,none⟩))]) ?_
      exact J95 (⟨t54,t82,(⟨#[]⟩ : ByteArray),t62,0⟩ : api_Instr) (Option.some.inj hp112) _ _ hS118
     refine sS 1 (.inRegion (opsOf p13_15) []::.code p13_16::td307) 33 (!t45) (fun h119 => ?_) fun h120 => ?_
     ·have hp121:=ite_t hv52 h119
      refine sR 8 (.inRegion (opsOf (cd13 [1,0,0,1,1,1,1,1,1,1,0,1,0,1,0,1])) [1]::td307) ?_
      obtain ⟨⟨t122,t123⟩,hr124,hp125⟩:=bind_some' hp121
      try dsimp only at hp125
      refine rC (weirref07_reader__must.ok (⟨a0v.L,a0v.Bad,t46,a0v.F,a0v.Test,a0v.Sets,a0v.Cols,a0v.Rows,a0v.Seen,a0v.Cond⟩ : weirref07_reader) (⟨#[88,65,68,68]⟩ : ByteArray) ba0 y47 y48 y49 y50 y51 y52 y53 y54 y55 y56 y31 y32 y33 y34 y35 y36 y57 y58 hS50 y59 y60 y61 y62 y63 y44 y45 y46 y64 hr124) ?_
      rintro _ w126 ⟨rfl,hS127⟩
      refine ⟨_,rfl,?_⟩
      refine sR 1 td307 ?_
      refine rF (mk 54 [(0,.pointer (some ⟨ba0,0,none⟩)),(2,.pointer (some ⟨b1,0,none⟩)),(4,.int .i64 9)]) ?_
      exact J59 9 t122 t123 (Option.some.inj hp125) _ _ hS127
     have hp128:=ite_f hv52 h120
     refine sR 3 td307 ?_
     refine rF (mk 54 [(0,.pointer (some ⟨ba0,0,none⟩)),(2,.pointer (some ⟨b1,0,none⟩)),(4,.int .i64 8)]) ?_
     exact J59 8 t46 a0v.F (Option.some.inj hp128) _ _ hS50
    have hp129:=ite_t hp23 rfl
    refine sR 4 (iR p13_32 1 4::.code p13_33::td306) ?_
    obtain ⟨⟨t130,t131,t132⟩,hr133,hp134⟩:=bind_some' hp129
    try dsimp only at hp134
    refine rC (weirref07_reader__place.ok (⟨a0v.L,a0v.Bad,t21,a0v.F,a0v.Test,a0v.Sets,a0v.Cols,a0v.Rows,a0v.Seen,a0v.Cond⟩ : weirref07_reader) ba0 y47 y48 y49 y50 y51 y52 y53 y54 y55 y56 y31 y32 y33 y34 y35 y36 y57 y58 hS25 y59 y60 y61 y62 y63 y44 y45 y46 y64 hr133) ?_
    rintro _ w135 ⟨rfl,hS136⟩
    refine ⟨_,rfl,?_⟩
    refine sR 1 (.inRegion (opsOf p13_32) [3,4]::.code p13_33::td306) ?_
    refine rA 23 (.agg (enc_api_Instr (⟨0,(⟨#[]⟩ : ByteArray),(⟨#[]⟩ : ByteArray),(⟨#[]⟩ : ByteArray),0⟩ : api_Instr)).toArray) (enc_api_Instr (⟨0,(⟨#[]⟩ : ByteArray),(⟨#[]⟩ : ByteArray),(⟨#[]⟩ : ByteArray),0⟩ : api_Instr)) hS136 ?_
    intro b137 w138 hS139
    refine rSA 23 (.tmp 3) (.tmp 21) (enc_api_Instr (⟨7,(⟨#[]⟩ : ByteArray),(⟨#[]⟩ : ByteArray),t130,0⟩ : api_Instr)) hS139 (one_api_Instr _) ?_
    intro w141 hS142
    refine sR 4 (.inRegion (opsOf (cd13 [1,0,0,1,1,1,1,1,0,1,0])) [1]::.code (cd13 [1,0,0,1,1,1,1,1,0,1,1])::td306) ?_
    obtain ⟨⟨t143,t144⟩,hr145,hp146⟩:=bind_some' hp134
    try dsimp only at hp146
    have hS147:=hS142.pick1
    refine rC (weirref07_reader__must.ok (⟨a0v.L,a0v.Bad,t131,t132,a0v.Test,a0v.Sets,a0v.Cols,a0v.Rows,a0v.Seen,a0v.Cond⟩ : weirref07_reader) (⟨#[44]⟩ : ByteArray) ba0 y47 y48 y49 y50 y51 y52 y53 y54 y55 y56 y31 y32 y33 y34 y35 y36 y57 y58 hS147 y59 y60 y61 y62 y63 y44 y45 y46 y64 hr145) ?_
    rintro _ w148 ⟨rfl,hS149⟩
    refine ⟨_,rfl,?_⟩
    refine sR 4 (.inRegion (opsOf p13_36) [1,2,3]::.code p13_37::td306) ?_
    obtain ⟨⟨t150,t151,t152⟩,hr153,hp154⟩:=bind_some' hp146
    try dsimp only at hp154
    refine rC (weirref07_reader__name.ok (⟨a0v.L,a0v.Bad,t143,t144,a0v.Test,a0v.Sets,a0v.Cols,a0v.Rows,a0v.Seen,a0v.Cond⟩ : weirref07_reader) ba0 y47 y48 y49 y50 y51 y52 y53 y54 y55 y56 y31 y32 y33 y34 y35 y36 y57 y58 hS149 y59 y60 y61 y62 y63 y44 y45 y46 y64 hr153) ?_
    rintro _ w155 ⟨rfl,hS156⟩
    refine ⟨_,rfl,?_⟩
    refine sR 1 (.inRegion (opsOf p13_36) [3]::.code p13_37::td306) ?_
    have hS157:=hS156.pick1
    refine rS 9 (.tmp 26) (.tmp 25) 1 (.string t150) [.string t150] (enc_api_Instr (⟨7,t150,(⟨#[]⟩ : ByteArray),t130,0⟩ : api_Instr)) hS157 ?_
    intro w158 hS159
    refine sR 3 (.inRegion (opsOf (cd13 [1,0,0,1,1,1,1,1,0,1,1,1,0])) [0,1]::.code p13_39::td306) ?_
    refine rLa 23 (.tmp 3) (hS159.blk 0 rfl) ?_
    have hS160:=hS159.pick2
    refine rSA 23 (.tmp 2) (.tmp 27) (enc_api_Instr (⟨7,t150,(⟨#[]⟩ : ByteArray),t130,0⟩ : api_Instr)) hS160 (one_api_Instr _) ?_
    intro w161 hS162
    refine sR 1 (.code p13_39::td306) ?_
    refine r_isret (c:=p13_39) (by kernel_rfl) ?_
    have hS163:=hS162.drop
    have hS164:=hS163.drop
    refine rRc (.agg (enc_api_Instr (⟨7,t150,(⟨#[]⟩ : ByteArray),t130,0⟩ : api_Instr)).toArray) (.ca 2 23 (hS162.blk 0 rfl) .nil) Tryz.func13 ?_
    cases Option.some.inj hp154
    exact hR _ _ ⟨rfl,hS164⟩
   have hp166:=ite_t hp16 rfl
   refine sR 4 (.inRegion (opsOf (cd13 [1,0,0,1,1,1,0,0])) [1]::.code (cd13 [1,0,0,1,1,1,0,1])::td306) ?_
   have hS167:=hS18.pick1
   refine rSA 23 (.tmp 2) (.tmp 15) (enc_api_Instr (⟨6,(⟨#[]⟩ : ByteArray),(⟨#[]⟩ : ByteArray),(⟨#[]⟩ : ByteArray),0⟩ : api_Instr)) hS167 (one_api_Instr _) ?_
   intro w168 hS169
   refine sR 1 (.code (cd13 [1,0,0,1,1,1,0,1])::td306) ?_
   have hS170:=hS169.drop
   refine rRc (.agg (enc_api_Instr (⟨6,(⟨#[]⟩ : ByteArray),(⟨#[]⟩ : ByteArray),(⟨#[]⟩ : ByteArray),0⟩ : api_Instr)).toArray) (.ca 2 23 (hS169.blk 0 rfl) .nil) Tryz.func13 ?_
   cases Option.some.inj hp166
   exact hR _ _ ⟨rfl,hS170⟩
  have hp172:=ite_t hp8 rfl
  refine sR 4 (.inRegion (opsOf (cd13 [1,0,0,1,0,0])) [1,2]::.code (cd13 [1,0,0,1,0,1])::td306) ?_
  obtain ⟨⟨t173,t174,t175⟩,hr176,hp177⟩:=bind_some' hp172
  try dsimp only at hp177
  refine rC (weirref07_reader__mov.ok (⟨a0v.L,a0v.Bad,t6,a0v.F,a0v.Test,a0v.Sets,a0v.Cols,a0v.Rows,a0v.Seen,a0v.Cond⟩ : weirref07_reader) ba0 y47 y48 y49 y50 y51 y52 y53 y54 y55 y56 y31 y32 y33 y34 y35 y36 y57 y58 hS11 y59 y60 y61 y62 y63 y44 y45 y46 y64 hr176) ?_
  rintro _ w178 ⟨rfl,hS179⟩
  refine ⟨_,rfl,?_⟩
  have hS180:=hS179.pick1
  refine rSA 23 (.tmp 2) (.tmp 11) (enc_api_Instr t173) hS180 (one_api_Instr _) ?_
  intro w181 hS182
  refine sR 1 (.code (cd13 [1,0,0,1,0,1])::td306) ?_
  have hS183:=hS182.drop
  refine rRc (.agg (enc_api_Instr t173).toArray) (.ca 2 23 (hS182.blk 0 rfl) .nil) Tryz.func13 ?_
  cases Option.some.inj hp177
  exact hR _ _ ⟨rfl,hS183⟩

noncomputable def cd5 (p : List Nat) : Code := sub (bodyOf Tryz.f5) p
abbrev p5_6:=cd5 [1,1,1]
abbrev p5_11:=cd5 [1,1,1,1,0,0]
abbrev p5_16:=cd5 [1,1,1,1,1,1]
abbrev p5_17:=cd5 [1,1,1,1,1,0,1,0,0]
abbrev p5_20:=cd5 [1,1,1,1,1,1,1]
abbrev td309:List Item:=[.code (cd5 [1,1,1,1,1])]
abbrev td310:List Item:=.code (cd5 [1,1,1,1,0,1])::td309
def weirref07_Instruction.f (a0 : ByteArray) : Option (api_Instr × weirref05_Fault) :=
  (weirref07_open.f a0 >>= (fun (t9,t10,t11,t12,t13,t14,t15,t16,t17,t18,t19,t20,t21,t22,t23,t24) => (if (t24.Code != 0) = true then some (((⟨0,(⟨#[]⟩ : ByteArray),(⟨#[]⟩ : ByteArray),(⟨#[]⟩ : ByteArray),0⟩ : api_Instr),t24)) else (if t9 = true then (weirref07_reader__instr.f (⟨t10,t11,t12,t13,(⟨t14,t15,t16,([] : List (List api_Instr)),t17,t18,t19⟩ : api_Test),t20,t21,([] : List (List api_Token)),t22,t23⟩ : weirref07_reader) >>= (fun (t88,t89,t90) => (((if (t90.Code == 0) = true then (weirref07_reader__next.f (⟨t10,t11,t89,t90,(⟨t14,t15,t16,([] : List (List api_Instr)),t17,t18,t19⟩ : api_Test),t20,t21,([] : List (List api_Token)),t22,t23⟩ : weirref07_reader) >>= (fun t207 => (if (t207.Kind != 0) = true then (weirref07_reader__wrong.f (⟨t10,t11,t89,t90,(⟨t14,t15,t16,([] : List (List api_Instr)),t17,t18,t19⟩ : api_Test),t20,t21,([] : List (List api_Token)),t22,t23⟩ : weirref07_reader) >>= (fun t274 => some (t274))) else (if (t11.Code != 0) = true then (weirref07_reader__wrong.f (⟨t10,t11,t89,t90,(⟨t14,t15,t16,([] : List (List api_Instr)),t17,t18,t19⟩ : api_Test),t20,t21,([] : List (List api_Token)),t22,t23⟩ : weirref07_reader) >>= (fun t338 => some (t338))) else some (t90))))) else some (t90)) : Option weirref05_Fault) >>= (fun t154 => (if (t154.Code != 0) = true then some (((⟨0,(⟨#[]⟩ : ByteArray),(⟨#[]⟩ : ByteArray),(⟨#[]⟩ : ByteArray),0⟩ : api_Instr),t154)) else some ((t88,(⟨0,0,0⟩ : weirref05_Fault)))))))) else none))))
set_option maxHeartbeats 16000000 in
theorem weirref07_Instruction.ok (a0 : ByteArray) {w0 : World} {Z : Zm} {fs : List XObj} {w : World} (hS0 : St w0 Z (fs) w) {q0 : api_Instr} {q1 : weirref05_Fault} (hp0 : weirref07_Instruction.f a0 = some (q0,q1)) :
    Calls Tryz.prog 5 #[.string a0] w (fun e w' => e = .returned (.tuple #[.agg (enc_api_Instr q0).toArray,.agg (enc_weirref05_Fault q1).toArray]) ∧ St w0 Z (fs) w'):=by
  refine calls_abs ?_; intro R hR
  unfold weirref07_Instruction.f at hp0
  refine calls_of_runs (fn:=Tryz.f5) (c:=cd5 []) Tryz.func5 (by kernel_rfl) (al:=[.string a0]) rfl (n:=53) rfl ?_
  refine sR 2 [.inRegion (opsOf (cd5 [0])) [0,1],.code (cd5 [1])] ?_
  refine rA 23 (.agg (enc_api_Instr (⟨0,(⟨#[]⟩ : ByteArray),(⟨#[]⟩ : ByteArray),(⟨#[]⟩ : ByteArray),0⟩ : api_Instr)).toArray) (enc_api_Instr (⟨0,(⟨#[]⟩ : ByteArray),(⟨#[]⟩ : ByteArray),(⟨#[]⟩ : ByteArray),0⟩ : api_Instr)) hS0 ?_
  intro b1 w2 hS3
  refine rA 29 (.agg (enc_weirref05_Fault (⟨0,0,0⟩ : weirref05_Fault)).toArray) (enc_weirref05_Fault (⟨0,0,0⟩ : weirref05_Fault)) hS3 ?_
  intro b5 w6 hS7
  refine sR 4 [iR (cd5 [1,0]) 1 7,.code (cd5 [1,1])] ?_
  obtain ⟨⟨t9,t10,t11,t12,t13,t14,t15,t16,t17,t18,t19,t20,t21,t22,t23,t24⟩,hr40,hp41⟩:=bind_some' hp0
  try dsimp only at hp41
  refine rC (weirref07_open.ok a0 hS7 hr40) ?_
  rintro _ w50 ⟨Q25,Q26,Q27,Q28,Q29,Q30,Q31,Q32,Q33,Q34,Q35,Q36,Q37,Q38,Q39,rfl,hS51⟩
  refine ⟨_,rfl,?_⟩
  refine sR 3 [.inRegion (opsOf (cd5 [1,0])) [5,6,7],.code (cd5 [1,1])] ?_
  refine rA 29 (.agg (enc_weirref05_Fault (⟨0,0,0⟩ : weirref05_Fault)).toArray) (enc_weirref05_Fault (⟨0,0,0⟩ : weirref05_Fault)) hS51 ?_
  intro b52 w53 hS54
  refine sR 1 [.inRegion (opsOf (cd5 [1,0])) [7],.code (cd5 [1,1])] ?_
  refine rSA 29 (.tmp 5) (.tmp 11) (enc_weirref05_Fault t24) hS54 (one_weirref05_Fault _) ?_
  intro w56 hS57
  refine sR 5 [.inRegion (opsOf (cd5 [1,1,0,0])) [1,2],.code (cd5 [1,1,0,1]),.code p5_6] ?_
  refine rL1 3 (.tmp 12) 2 (hS57.blk 0 rfl) ?_
  refine sS 1 [.inRegion (opsOf (cd5 [1,1,0,0])) [],.code (cd5 [1,1,0,1]),.code p5_6] 14 (t24.Code != 0) (fun h58 => ?_) fun h59 => ?_
  ·have hp60:=ite_t hp41 h58
   refine sR 3 [.code (cd5 [1,1,0,1,0,0]),.code (cd5 [1,1,0,1,0,1]),.code p5_6] ?_
   have hS61:=hS57.pick10
   have hS62:=hS61.pick10
   have hS63:=hS62.pick2
   generalize hg65 : (cond t9 (xblk Q25 55 (([.slice Q26 t10.length Q27] : List Value) ++ (enc_weirref05_Fault t11) ++ ([.int .i64 t12] : List Value) ++ (enc_weirref05_Fault t13) ++ ([.string t14,.string t15,.slice Q28 t16.length Q29,.slice none 0 0,.slice Q30 t17.length Q31,.int .i64 t18,.slice Q32 t19.length Q33,.slice Q34 t20.length Q35,.slice Q36 t21.length Q37,.slice none 0 0,.slice Q38 t22.length Q39,.int .i64 t23] : List Value))) (xrow none 0 0 0 [])::xrow Q26 Q27 39 7 (t10.flatMap enc_api_Token)::xrow Q28 Q29 182 3 (t16.flatMap enc_api_Init)::xrow Q30 Q31 180 2 (t17.flatMap enc_api_Ref)::xrow Q32 Q33 185 6 (t19.flatMap enc_api_Node)::xrow Q34 Q35 39 7 (t20.flatMap enc_api_Token)::xrow Q36 Q37 39 7 (t21.flatMap enc_api_Token)::xrow Q38 Q39 39 7 (t22.flatMap enc_api_Token)::fs) = gs64 at hS63
   refine r_drawnG (S:=Option (Unit × Option Unit)) (rank:=(fun st => match st with | none => 0 | some (x66,none) => 1 | some (x66,some x67) => 2)) (C:=(fun st w' => match st with | none => St w0 Z (xblk b52 29 (enc_weirref05_Fault t24)::xblk b5 29 (enc_weirref05_Fault (⟨0,0,0⟩ : weirref05_Fault))::xblk b1 23 (enc_api_Instr (⟨0,(⟨#[]⟩ : ByteArray),(⟨#[]⟩ : ByteArray),(⟨#[]⟩ : ByteArray),0⟩ : api_Instr))::gs64) w' | some (x66,none) => St w0 Z (xblk b1 23 (enc_api_Instr (⟨0,(⟨#[]⟩ : ByteArray),(⟨#[]⟩ : ByteArray),(⟨#[]⟩ : ByteArray),0⟩ : api_Instr))::xblk b52 29 (enc_weirref05_Fault t24)::xblk b5 29 (enc_weirref05_Fault (⟨0,0,0⟩ : weirref05_Fault))::gs64) w' | some (x66,some x67) => St w0 Z (xblk b5 29 (enc_weirref05_Fault t24)::xblk b1 23 (enc_api_Instr (⟨0,(⟨#[]⟩ : ByteArray),(⟨#[]⟩ : ByteArray),(⟨#[]⟩ : ByteArray),0⟩ : api_Instr))::xblk b52 29 (enc_weirref05_Fault t24)::gs64) w')) (v:=(fun st => match st with | none => [.agg (enc_api_Instr (⟨0,(⟨#[]⟩ : ByteArray),(⟨#[]⟩ : ByteArray),(⟨#[]⟩ : ByteArray),0⟩ : api_Instr)).toArray,.agg (enc_weirref05_Fault t24).toArray,undef,undef] | some (x66,none) => [.agg (enc_api_Instr (⟨0,(⟨#[]⟩ : ByteArray),(⟨#[]⟩ : ByteArray),(⟨#[]⟩ : ByteArray),0⟩ : api_Instr)).toArray,.agg (enc_weirref05_Fault t24).toArray,undef,undef] | some (x66,some x67) => [.agg (enc_api_Instr (⟨0,(⟨#[]⟩ : ByteArray),(⟨#[]⟩ : ByteArray),(⟨#[]⟩ : ByteArray),0⟩ : api_Instr)).toArray,.agg (enc_weirref05_Fault t24).toArray,undef,undef])) (c:=(cd5 [1,1,0,1,0,0])) (id:=3) none 2 4 [2,3] [0,0,0,1] [0,1,1,2] [] (by kernel_rfl) (by kernel_rfl) (by kernel_rfl) (by kernel_rfl) (by kernel_rfl) (by kernel_rfl) (by kernel_rfl) (by kernel_rfl) (by kernel_rfl) (by kernel_rfl) rfl hS63.drew ?_ ?_ ?_ ?_
   ·intro st w hC
    rcases st with _ | ⟨x66,_ | x67⟩
    ·exact nbl rfl
    ·exact nbl rfl
    ·exact nbl rfl
   ·intro i hi he st w hC hr hu
    match i,hi,he with
    | 0,_,_ =>
     rcases st with _ | ⟨x66,_ | x67⟩
     ·dsimp only at hC
      exact dP (.agg (enc_api_Instr (⟨0,(⟨#[]⟩ : ByteArray),(⟨#[]⟩ : ByteArray),(⟨#[]⟩ : ByteArray),0⟩ : api_Instr)).toArray) hC
     ·exact absurd hu (nle rfl)
     ·exact absurd hu (nle rfl)
    | 1,_,_ =>
     rcases st with _ | ⟨x66,_ | x67⟩
     ·dsimp only at hC
      exact does_run (x_load (t:=29) (x:=(.tmp 5)) (p:=⟨b52,0,none⟩) (v:=.agg (enc_weirref05_Fault t24).toArray) (by kernel_rfl) (loads_agg (hC.blk 0 rfl) (by kernel_rfl) (by kernel_rfl)) (by kernel_rfl)) rfl hC
     ·dsimp only at hC
      exact does_run (x_load (t:=29) (x:=(.tmp 5)) (p:=⟨b52,0,none⟩) (v:=.agg (enc_weirref05_Fault t24).toArray) (by kernel_rfl) (loads_agg (hC.blk 1 rfl) (by kernel_rfl) (by kernel_rfl)) (by kernel_rfl)) rfl hC
     ·exact absurd hu (nle rfl)
    | 2,_,he => exact absurd he (by decide)
    | 3,_,he => exact absurd he (by decide)
    | i + 4,hi,_ => exact absurd hi (by omega)
   ·intro k hk st w hC hr
    match k,hk with
    | 0,_ =>
     rcases st with _ | ⟨x66,_ | x67⟩
     ·dsimp only at hC
      have hC:=hC.pick2
      refine dSG 23 (.tmp 2) (.tmp 15) 0 (.agg (enc_api_Instr (⟨0,(⟨#[]⟩ : ByteArray),(⟨#[]⟩ : ByteArray),(⟨#[]⟩ : ByteArray),0⟩ : api_Instr)).toArray) (enc_api_Instr (⟨0,(⟨#[]⟩ : ByteArray),(⟨#[]⟩ : ByteArray),(⟨#[]⟩ : ByteArray),0⟩ : api_Instr)) (enc_api_Instr (⟨0,(⟨#[]⟩ : ByteArray),(⟨#[]⟩ : ByteArray),(⟨#[]⟩ : ByteArray),0⟩ : api_Instr)) hC (one_api_Instr _) ?_
      intro w2 h2
      refine ⟨some ((),none),rfl,?_,.inl rfl,h2⟩
      intro j hj
      match j,hj with
      | 0,_ => exact rfl
      | 1,_ => exact rfl
      | 2,hj => exact absurd hj (by decide)
      | 3,hj => exact absurd hj (by decide)
      | j + 4,_ => exact rfl
     ·exact absurd hr (Nat.ne_of_beq_eq_false rfl)
     ·exact absurd hr (Nat.ne_of_beq_eq_false rfl)
    | 1,_ =>
     rcases st with _ | ⟨x66,_ | x67⟩
     ·exact absurd hr (Nat.ne_of_beq_eq_false rfl)
     ·dsimp only at hC
      have hC:=hC.pick2
      refine dSG 29 (.tmp 3) (.tmp 16) 0 (.agg (enc_weirref05_Fault t24).toArray) (enc_weirref05_Fault t24) (enc_weirref05_Fault t24) hC (one_weirref05_Fault _) ?_
      intro w2 h2
      refine ⟨some (x66,some ()),rfl,?_,.inl rfl,h2⟩
      intro j hj
      match j,hj with
      | 0,_ => exact rfl
      | 1,_ => exact rfl
      | 2,_ => exact rfl
      | 3,hj => exact absurd hj (by decide)
      | j + 4,_ => exact rfl
     ·exact absurd hr (Nat.ne_of_beq_eq_false rfl)
    | k + 2,hk => exact absurd hk (by simp)
   intro st71 w68 hS69 hr70
   rcases st71 with _ | ⟨x66,_ | x67⟩
   ·exact absurd hr70 (nle rfl)
   ·exact absurd hr70 (nle rfl)
   replace hS69 : St w0 Z (xblk b5 29 (enc_weirref05_Fault t24)::xblk b1 23 (enc_api_Instr (⟨0,(⟨#[]⟩ : ByteArray),(⟨#[]⟩ : ByteArray),(⟨#[]⟩ : ByteArray),0⟩ : api_Instr))::xblk b52 29 (enc_weirref05_Fault t24)::gs64) w68:=hS69
   subst hg65
   have hS72:=hS69.drop
   have hS73:=hS72.drop
   have hS74:=hS73.drop
   have hS75:=hS74.drop
   have hS76:=hS75.drop
   have hS77:=hS76.drop
   have hS78:=hS77.drop
   have hS79:=hS78.drop
   have hS80:=hS79.drop
   have hS81:=hS80.drop
   have hS82:=hS81.drop
   refine rRc (.tuple #[.agg (enc_api_Instr (⟨0,(⟨#[]⟩ : ByteArray),(⟨#[]⟩ : ByteArray),(⟨#[]⟩ : ByteArray),0⟩ : api_Instr)).toArray,.agg (enc_weirref05_Fault t24).toArray]) (.ca 2 23 (hS69.blk 1 rfl) (.ca 3 29 (hS69.blk 0 rfl) .nil)) Tryz.func5 ?_
   cases Option.some.inj hp60
   exact hR _ _ ⟨rfl,hS82⟩
  have hp84:=ite_f hp41 h59
  refine sR 6 [.inRegion (opsOf (cd5 [1,1,1,0])) [1,2,3],.code (cd5 [1,1,1,1])] ?_
  obtain ⟨g85,hp86⟩:=ite_some hp84
  subst g85
  have hS87 : St w0 Z (xblk b52 29 (enc_weirref05_Fault t24)::xblk Q25 55 (([.slice Q26 t10.length Q27] : List Value) ++ (enc_weirref05_Fault t11) ++ ([.int .i64 t12] : List Value) ++ (enc_weirref05_Fault t13) ++ ([.string t14,.string t15,.slice Q28 t16.length Q29,.slice none 0 0,.slice Q30 t17.length Q31,.int .i64 t18,.slice Q32 t19.length Q33,.slice Q34 t20.length Q35,.slice Q36 t21.length Q37,.slice none 0 0,.slice Q38 t22.length Q39,.int .i64 t23] : List Value))::xrow Q26 Q27 39 7 (t10.flatMap enc_api_Token)::xrow Q28 Q29 182 3 (t16.flatMap enc_api_Init)::xrow Q30 Q31 180 2 (t17.flatMap enc_api_Ref)::xrow Q32 Q33 185 6 (t19.flatMap enc_api_Node)::xrow Q34 Q35 39 7 (t20.flatMap enc_api_Token)::xrow Q36 Q37 39 7 (t21.flatMap enc_api_Token)::xrow Q38 Q39 39 7 (t22.flatMap enc_api_Token)::xblk b5 29 (enc_weirref05_Fault (⟨0,0,0⟩ : weirref05_Fault))::xblk b1 23 (enc_api_Instr (⟨0,(⟨#[]⟩ : ByteArray),(⟨#[]⟩ : ByteArray),(⟨#[]⟩ : ByteArray),0⟩ : api_Instr))::fs) w56:=hS57
  obtain ⟨⟨t88,t89,t90⟩,hr91,hp92⟩:=bind_some' hp86
  try dsimp only at hp92
  have hS93:=hS87.pick2
  obtain ⟨Z94,hz95,hS96,hs97,hb98⟩:=hS93.lendrow len_api_Token (by omega)
  have hS99:=hS96.pick2
  obtain ⟨Z100,hz101,hS102,hs103,hb104⟩:=hS99.lendrow len_api_Init (by omega)
  have hS105:=hS102.pick2
  obtain ⟨Z106,hz107,hS108,hs109,hb110⟩:=hS105.lendrow len_api_Ref (by omega)
  have hS111:=hS108.pick2
  obtain ⟨Z112,hz113,hS114,hs115,hb116⟩:=hS111.lendrow len_api_Node (by omega)
  have hS117:=hS114.pick2
  obtain ⟨Z118,hz119,hS120,hs121,hb122⟩:=hS117.lendrow len_api_Token (by omega)
  have hS123:=hS120.pick2
  obtain ⟨Z124,hz125,hS126,hs127,hb128⟩:=hS123.lendrow len_api_Token (by omega)
  have hS129:=hS126.pick2
  obtain ⟨Z130,hz131,hS132,hs133,hb134⟩:=hS129.lendrow len_api_Token (by omega)
  have hS135:=hS132.pick1
  refine rC (weirref07_reader__instr.ok (⟨t10,t11,t12,t13,(⟨t14,t15,t16,([] : List (List api_Instr)),t17,t18,t19⟩ : api_Test),t20,t21,([] : List (List api_Token)),t22,t23⟩ : weirref07_reader) Q25 Q26 Q27 Q28 Q29 none 0 Q30 Q31 Q32 Q33 Q34 Q35 Q36 Q37 none 0 Q38 Q39 hS135 (hs97.up (Zm.Le.trans hz101 (Zm.Le.trans hz107 (Zm.Le.trans hz113 (Zm.Le.trans hz119 (Zm.Le.trans hz125 hz131)))))) (hs103.up (Zm.Le.trans hz107 (Zm.Le.trans hz113 (Zm.Le.trans hz119 (Zm.Le.trans hz125 hz131))))) (SlZ.nil _ _ _ _ _) (hs109.up (Zm.Le.trans hz113 (Zm.Le.trans hz119 (Zm.Le.trans hz125 hz131)))) (hs115.up (Zm.Le.trans hz119 (Zm.Le.trans hz125 hz131))) (hs121.up (Zm.Le.trans hz125 hz131)) (hs127.up hz131) (SlZ.nil _ _ _ _ _) hs133 hr91) ?_
  rintro _ w136 ⟨rfl,hS137⟩
  refine ⟨_,rfl,?_⟩
  have hS138:=hb134 _ _ hS137
  have hS139:=hb128 _ _ hS138
  have hS140:=hb122 _ _ hS139
  have hS141:=hb116 _ _ hS140
  have hS142:=hb110 _ _ hS141
  have hS143:=hb104 _ _ hS142
  have hS144:=hb98 _ _ hS143
  refine rA 23 (.agg (enc_api_Instr (⟨0,(⟨#[]⟩ : ByteArray),(⟨#[]⟩ : ByteArray),(⟨#[]⟩ : ByteArray),0⟩ : api_Instr)).toArray) (enc_api_Instr (⟨0,(⟨#[]⟩ : ByteArray),(⟨#[]⟩ : ByteArray),(⟨#[]⟩ : ByteArray),0⟩ : api_Instr)) hS144 ?_
  intro b145 w146 hS147
  refine rSA 23 (.tmp 6) (.tmp 18) (enc_api_Instr t88) hS147 (one_api_Instr _) ?_
  intro w149 hS150
  refine sR 8 (iR p5_11 4 16::td310) ?_
  refine rL1 3 (.tmp 22) 2 (Cells.mid' (pre:=[.slice Q26 t10.length Q27] ++ (enc_weirref05_Fault t11) ++ [.int .i64 t89]) (cs:=enc_weirref05_Fault t90) (post:=[.string t14,.string t15,.slice Q28 t16.length Q29,.slice none 0 0,.slice Q30 t17.length Q31,.int .i64 t18,.slice Q32 t19.length Q33] ++ [.slice Q34 t20.length Q35] ++ [.slice Q36 t21.length Q37] ++ [.slice none 0 0] ++ [.slice Q38 t22.length Q39] ++ [.int .i64 t23]) (off:=5) (hS150.blk 8 rfl) (by simp [len_weirref05_Fault,len_weirref05_Fault]) (by simp)) ?_
  obtain ⟨v151,hv152,hp153⟩:=bind_some' hp92
  have J157 : ∀ (t154 : weirref05_Fault) (he159 : t154 = v151) (l158 : List Value) (w155 : World) (hS156 : St w0 Z (xblk b1 23 (enc_api_Instr (⟨0,(⟨#[]⟩ : ByteArray),(⟨#[]⟩ : ByteArray),(⟨#[]⟩ : ByteArray),0⟩ : api_Instr))::xblk b5 29 (enc_weirref05_Fault (⟨0,0,0⟩ : weirref05_Fault))::xblk Q25 55 (([.slice Q26 t10.length Q27] : List Value) ++ (enc_weirref05_Fault t11) ++ ([.int .i64 t89] : List Value) ++ (enc_weirref05_Fault t154) ++ ([.string t14,.string t15,.slice Q28 t16.length Q29,.slice none 0 0,.slice Q30 t17.length Q31,.int .i64 t18,.slice Q32 t19.length Q33,.slice Q34 t20.length Q35,.slice Q36 t21.length Q37,.slice none 0 0,.slice Q38 t22.length Q39,.int .i64 t23] : List Value))::xrow Q26 Q27 39 7 (t10.flatMap enc_api_Token)::xrow Q28 Q29 182 3 (t16.flatMap enc_api_Init)::xrow Q30 Q31 180 2 (t17.flatMap enc_api_Ref)::xrow Q32 Q33 185 6 (t19.flatMap enc_api_Node)::xrow Q34 Q35 39 7 (t20.flatMap enc_api_Token)::xrow Q36 Q37 39 7 (t21.flatMap enc_api_Token)::xrow Q38 Q39 39 7 (t22.flatMap enc_api_Token)::xblk b145 23 (enc_api_Instr t88)::fs) w155),Runs Tryz.prog (fx 5) td309 (fill (mk 54 [(2,.pointer (some ⟨b1,0,none⟩)),(3,.pointer (some ⟨b5,0,none⟩)),(4,.pointer (some ⟨Q25,0,none⟩)),(6,.pointer (some ⟨b145,0,none⟩))]) l158) w155 R:=by
   intro t154 he159 l158 w155 hS156
   subst he159
   try dsimp only at hp153
   refine sR 7 [.inRegion (opsOf (cd5 [1,1,1,1,1,0,0])) [4,5],.code (cd5 [1,1,1,1,1,0,1]),.code p5_16] ?_
   refine rL1 3 (.tmp 44) 2 (Cells.mid' (pre:=[.slice Q26 t10.length Q27] ++ (enc_weirref05_Fault t11) ++ [.int .i64 t89]) (cs:=enc_weirref05_Fault t154) (post:=[.string t14,.string t15,.slice Q28 t16.length Q29,.slice none 0 0,.slice Q30 t17.length Q31,.int .i64 t18,.slice Q32 t19.length Q33] ++ [.slice Q34 t20.length Q35] ++ [.slice Q36 t21.length Q37] ++ [.slice none 0 0] ++ [.slice Q38 t22.length Q39] ++ [.int .i64 t23]) (off:=5) (hS156.blk 2 rfl) (by simp [len_weirref05_Fault,len_weirref05_Fault]) (by simp)) ?_
   refine sS 1 [.inRegion (opsOf (cd5 [1,1,1,1,1,0,0])) [],.code (cd5 [1,1,1,1,1,0,1]),.code p5_16] 46 (t154.Code != 0) (fun h160 => ?_) fun h161 => ?_
   ·have hp162:=ite_t hp153 h160
    refine sR 3 [.code p5_17,.code (cd5 [1,1,1,1,1,0,1,0,1]),.code p5_16] ?_
    have hS163:=hS156.pick2
    have hS164:=hS163.pick2
    have hS165:=hS164.pick2
    generalize hg167 : (xrow Q26 Q27 39 7 (t10.flatMap enc_api_Token)::xrow Q28 Q29 182 3 (t16.flatMap enc_api_Init)::xrow Q30 Q31 180 2 (t17.flatMap enc_api_Ref)::xrow Q32 Q33 185 6 (t19.flatMap enc_api_Node)::xrow Q34 Q35 39 7 (t20.flatMap enc_api_Token)::xrow Q36 Q37 39 7 (t21.flatMap enc_api_Token)::xrow Q38 Q39 39 7 (t22.flatMap enc_api_Token)::xblk b145 23 (enc_api_Instr t88)::fs) = gs166 at hS165
    refine r_drawnG (S:=Option (Unit × Option Unit)) (rank:=(fun st => match st with | none => 0 | some (x168,none) => 1 | some (x168,some x169) => 2)) (C:=(fun st w' => match st with | none => St w0 Z (xblk b1 23 (enc_api_Instr (⟨0,(⟨#[]⟩ : ByteArray),(⟨#[]⟩ : ByteArray),(⟨#[]⟩ : ByteArray),0⟩ : api_Instr))::xblk b5 29 (enc_weirref05_Fault (⟨0,0,0⟩ : weirref05_Fault))::xblk Q25 55 (([.slice Q26 t10.length Q27] : List Value) ++ (enc_weirref05_Fault t11) ++ ([.int .i64 t89] : List Value) ++ (enc_weirref05_Fault t154) ++ ([.string t14,.string t15,.slice Q28 t16.length Q29,.slice none 0 0,.slice Q30 t17.length Q31,.int .i64 t18,.slice Q32 t19.length Q33,.slice Q34 t20.length Q35,.slice Q36 t21.length Q37,.slice none 0 0,.slice Q38 t22.length Q39,.int .i64 t23] : List Value))::gs166) w' | some (x168,none) => St w0 Z (xblk b1 23 (enc_api_Instr (⟨0,(⟨#[]⟩ : ByteArray),(⟨#[]⟩ : ByteArray),(⟨#[]⟩ : ByteArray),0⟩ : api_Instr))::xblk b5 29 (enc_weirref05_Fault (⟨0,0,0⟩ : weirref05_Fault))::xblk Q25 55 (([.slice Q26 t10.length Q27] : List Value) ++ (enc_weirref05_Fault t11) ++ ([.int .i64 t89] : List Value) ++ (enc_weirref05_Fault t154) ++ ([.string t14,.string t15,.slice Q28 t16.length Q29,.slice none 0 0,.slice Q30 t17.length Q31,.int .i64 t18,.slice Q32 t19.length Q33,.slice Q34 t20.length Q35,.slice Q36 t21.length Q37,.slice none 0 0,.slice Q38 t22.length Q39,.int .i64 t23] : List Value))::gs166) w' | some (x168,some x169) => St w0 Z (xblk b5 29 (enc_weirref05_Fault t154)::xblk b1 23 (enc_api_Instr (⟨0,(⟨#[]⟩ : ByteArray),(⟨#[]⟩ : ByteArray),(⟨#[]⟩ : ByteArray),0⟩ : api_Instr))::xblk Q25 55 (([.slice Q26 t10.length Q27] : List Value) ++ (enc_weirref05_Fault t11) ++ ([.int .i64 t89] : List Value) ++ (enc_weirref05_Fault t154) ++ ([.string t14,.string t15,.slice Q28 t16.length Q29,.slice none 0 0,.slice Q30 t17.length Q31,.int .i64 t18,.slice Q32 t19.length Q33,.slice Q34 t20.length Q35,.slice Q36 t21.length Q37,.slice none 0 0,.slice Q38 t22.length Q39,.int .i64 t23] : List Value))::gs166) w')) (v:=(fun st => match st with | none => [.agg (enc_api_Instr (⟨0,(⟨#[]⟩ : ByteArray),(⟨#[]⟩ : ByteArray),(⟨#[]⟩ : ByteArray),0⟩ : api_Instr)).toArray,.pointer (some ⟨Q25,0,none⟩),.pointer (some ⟨Q25,0,none⟩),.pointer (some ⟨Q25,5,none⟩),.agg (enc_weirref05_Fault t154).toArray,undef,undef] | some (x168,none) => [.agg (enc_api_Instr (⟨0,(⟨#[]⟩ : ByteArray),(⟨#[]⟩ : ByteArray),(⟨#[]⟩ : ByteArray),0⟩ : api_Instr)).toArray,.pointer (some ⟨Q25,0,none⟩),.pointer (some ⟨Q25,0,none⟩),.pointer (some ⟨Q25,5,none⟩),.agg (enc_weirref05_Fault t154).toArray,undef,undef] | some (x168,some x169) => [.agg (enc_api_Instr (⟨0,(⟨#[]⟩ : ByteArray),(⟨#[]⟩ : ByteArray),(⟨#[]⟩ : ByteArray),0⟩ : api_Instr)).toArray,.pointer (some ⟨Q25,0,none⟩),.pointer (some ⟨Q25,0,none⟩),.pointer (some ⟨Q25,5,none⟩),.agg (enc_weirref05_Fault t154).toArray,undef,undef])) (c:=p5_17) (id:=8) none 5 7 [5,6] [0,0,0,0,0,0,1] [0,1,1,1,1,1,2] [] (by kernel_rfl) (by kernel_rfl) (by kernel_rfl) (by kernel_rfl) (by kernel_rfl) (by kernel_rfl) (by kernel_rfl) (by kernel_rfl) (by kernel_rfl) (by kernel_rfl) rfl hS165.drew ?_ ?_ ?_ ?_
    ·intro st w hC
     rcases st with _ | ⟨x168,_ | x169⟩
     ·exact nbl rfl
     ·exact nbl rfl
     ·exact nbl rfl
    ·intro i hi he st w hC hr hu
     match i,hi,he with
     | 0,_,_ =>
      rcases st with _ | ⟨x168,_ | x169⟩
      ·dsimp only at hC
       exact dP (.agg (enc_api_Instr (⟨0,(⟨#[]⟩ : ByteArray),(⟨#[]⟩ : ByteArray),(⟨#[]⟩ : ByteArray),0⟩ : api_Instr)).toArray) hC
      ·exact absurd hu (nle rfl)
      ·exact absurd hu (nle rfl)
     | 1,_,_ =>
      rcases st with _ | ⟨x168,_ | x169⟩
      ·dsimp only at hC
       exact dP (.pointer (some ⟨Q25,0,none⟩)) hC
      ·dsimp only at hC
       exact dP (.pointer (some ⟨Q25,0,none⟩)) hC
      ·exact absurd hu (nle rfl)
     | 2,_,_ =>
      rcases st with _ | ⟨x168,_ | x169⟩
      ·dsimp only at hC
       exact dP (.pointer (some ⟨Q25,0,none⟩)) hC
      ·dsimp only at hC
       exact dP (.pointer (some ⟨Q25,0,none⟩)) hC
      ·exact absurd hu (nle rfl)
     | 3,_,_ =>
      rcases st with _ | ⟨x168,_ | x169⟩
      ·dsimp only at hC
       exact dP (.pointer (some ⟨Q25,5,none⟩)) hC
      ·dsimp only at hC
       exact dP (.pointer (some ⟨Q25,5,none⟩)) hC
      ·exact absurd hu (nle rfl)
     | 4,_,_ =>
      rcases st with _ | ⟨x168,_ | x169⟩
      ·dsimp only at hC
       exact does_run (x_load (t:=29) (x:=(.tmp 50)) (p:=⟨Q25,5,none⟩) (v:=.agg (enc_weirref05_Fault t154).toArray) (by kernel_rfl) (loads_agg (Cells.mid' (pre:=[.slice Q26 t10.length Q27] ++ (enc_weirref05_Fault t11) ++ [.int .i64 t89]) (cs:=enc_weirref05_Fault t154) (post:=[.string t14,.string t15,.slice Q28 t16.length Q29,.slice none 0 0,.slice Q30 t17.length Q31,.int .i64 t18,.slice Q32 t19.length Q33] ++ [.slice Q34 t20.length Q35] ++ [.slice Q36 t21.length Q37] ++ [.slice none 0 0] ++ [.slice Q38 t22.length Q39] ++ [.int .i64 t23]) (off:=5) (hC.blk 2 rfl) (by simp [len_weirref05_Fault,len_weirref05_Fault]) (by simp)) (by kernel_rfl) (by kernel_rfl)) (by kernel_rfl)) rfl hC
      ·dsimp only at hC
       exact does_run (x_load (t:=29) (x:=(.tmp 50)) (p:=⟨Q25,5,none⟩) (v:=.agg (enc_weirref05_Fault t154).toArray) (by kernel_rfl) (loads_agg (Cells.mid' (pre:=[.slice Q26 t10.length Q27] ++ (enc_weirref05_Fault t11) ++ [.int .i64 t89]) (cs:=enc_weirref05_Fault t154) (post:=[.string t14,.string t15,.slice Q28 t16.length Q29,.slice none 0 0,.slice Q30 t17.length Q31,.int .i64 t18,.slice Q32 t19.length Q33] ++ [.slice Q34 t20.length Q35] ++ [.slice Q36 t21.length Q37] ++ [.slice none 0 0] ++ [.slice Q38 t22.length Q39] ++ [.int .i64 t23]) (off:=5) (hC.blk 2 rfl) (by simp [len_weirref05_Fault,len_weirref05_Fault]) (by simp)) (by kernel_rfl) (by kernel_rfl)) (by kernel_rfl)) rfl hC
      ·exact absurd hu (nle rfl)
     | 5,_,he => exact absurd he (by decide)
     | 6,_,he => exact absurd he (by decide)
     | i + 7,hi,_ => exact absurd hi (by omega)
    ·intro k hk st w hC hr
     match k,hk with
     | 0,_ =>
      rcases st with _ | ⟨x168,_ | x169⟩
      ·dsimp only at hC
       refine dSG 23 (.tmp 2) (.tmp 47) 0 (.agg (enc_api_Instr (⟨0,(⟨#[]⟩ : ByteArray),(⟨#[]⟩ : ByteArray),(⟨#[]⟩ : ByteArray),0⟩ : api_Instr)).toArray) (enc_api_Instr (⟨0,(⟨#[]⟩ : ByteArray),(⟨#[]⟩ : ByteArray),(⟨#[]⟩ : ByteArray),0⟩ : api_Instr)) (enc_api_Instr (⟨0,(⟨#[]⟩ : ByteArray),(⟨#[]⟩ : ByteArray),(⟨#[]⟩ : ByteArray),0⟩ : api_Instr)) hC (one_api_Instr _) ?_
       intro w2 h2
       refine ⟨some ((),none),rfl,?_,.inl rfl,h2⟩
       intro j hj
       match j,hj with
       | 0,_ => exact rfl
       | 1,_ => exact rfl
       | 2,_ => exact rfl
       | 3,_ => exact rfl
       | 4,_ => exact rfl
       | 5,hj => exact absurd hj (by decide)
       | 6,hj => exact absurd hj (by decide)
       | j + 7,_ => exact rfl
      ·exact absurd hr (Nat.ne_of_beq_eq_false rfl)
      ·exact absurd hr (Nat.ne_of_beq_eq_false rfl)
     | 1,_ =>
      rcases st with _ | ⟨x168,_ | x169⟩
      ·exact absurd hr (Nat.ne_of_beq_eq_false rfl)
      ·dsimp only at hC
       have hC:=hC.pick1
       refine dSG 29 (.tmp 3) (.tmp 51) 0 (.agg (enc_weirref05_Fault t154).toArray) (enc_weirref05_Fault t154) (enc_weirref05_Fault t154) hC (one_weirref05_Fault _) ?_
       intro w2 h2
       refine ⟨some (x168,some ()),rfl,?_,.inl rfl,h2⟩
       intro j hj
       match j,hj with
       | 0,_ => exact rfl
       | 1,_ => exact rfl
       | 2,_ => exact rfl
       | 3,_ => exact rfl
       | 4,_ => exact rfl
       | 5,_ => exact rfl
       | 6,hj => exact absurd hj (by decide)
       | j + 7,_ => exact rfl
      ·exact absurd hr (Nat.ne_of_beq_eq_false rfl)
     | k + 2,hk => exact absurd hk (by simp)
    intro st173 w170 hS171 hr172
    rcases st173 with _ | ⟨x168,_ | x169⟩
    ·exact absurd hr172 (nle rfl)
    ·exact absurd hr172 (nle rfl)
    replace hS171 : St w0 Z (xblk b5 29 (enc_weirref05_Fault t154)::xblk b1 23 (enc_api_Instr (⟨0,(⟨#[]⟩ : ByteArray),(⟨#[]⟩ : ByteArray),(⟨#[]⟩ : ByteArray),0⟩ : api_Instr))::xblk Q25 55 (([.slice Q26 t10.length Q27] : List Value) ++ (enc_weirref05_Fault t11) ++ ([.int .i64 t89] : List Value) ++ (enc_weirref05_Fault t154) ++ ([.string t14,.string t15,.slice Q28 t16.length Q29,.slice none 0 0,.slice Q30 t17.length Q31,.int .i64 t18,.slice Q32 t19.length Q33,.slice Q34 t20.length Q35,.slice Q36 t21.length Q37,.slice none 0 0,.slice Q38 t22.length Q39,.int .i64 t23] : List Value))::gs166) w170:=hS171
    subst hg167
    have hS174:=hS171.drop
    have hS175:=hS174.drop
    have hS176:=hS175.drop
    have hS177:=hS176.drop
    have hS178:=hS177.drop
    have hS179:=hS178.drop
    have hS180:=hS179.drop
    have hS181:=hS180.drop
    have hS182:=hS181.drop
    have hS183:=hS182.drop
    have hS184:=hS183.drop
    refine rRc (.tuple #[.agg (enc_api_Instr (⟨0,(⟨#[]⟩ : ByteArray),(⟨#[]⟩ : ByteArray),(⟨#[]⟩ : ByteArray),0⟩ : api_Instr)).toArray,.agg (enc_weirref05_Fault t154).toArray]) (.ca 2 23 (hS171.blk 1 rfl) (.ca 3 29 (hS171.blk 0 rfl) .nil)) Tryz.func5 ?_
    cases Option.some.inj hp162
    exact hR _ _ ⟨rfl,hS184⟩
   have hp186:=ite_f hp153 h161
   refine sR 5 [iR (cd5 [1,1,1,1,1,1,0]) 0 4,.code p5_20] ?_
   refine rLa 23 (.tmp 6) (hS156.blk 10 rfl) ?_
   refine sR 1 [.inRegion (opsOf (cd5 [1,1,1,1,1,1,0])) [2,3],.code p5_20] ?_
   refine rSA 23 (.tmp 2) (.tmp 52) (enc_api_Instr t88) hS156 (one_api_Instr _) ?_
   intro w187 hS188
   have hS189:=hS188.pick1
   refine rSA 29 (.tmp 3) (.tmp 53) (enc_weirref05_Fault (⟨0,0,0⟩ : weirref05_Fault)) hS189 (one_weirref05_Fault _) ?_
   intro w190 hS191
   refine sR 1 [.code p5_20] ?_
   have hS192:=hS191.drop
   have hS193:=hS192.drop
   have hS194:=hS193.drop
   have hS195:=hS194.drop
   have hS196:=hS195.drop
   have hS197:=hS196.drop
   have hS198:=hS197.drop
   have hS199:=hS198.drop
   have hS200:=hS199.drop
   have hS201:=hS200.drop
   have hS202:=hS201.drop
   refine rRc (.tuple #[.agg (enc_api_Instr t88).toArray,.agg (enc_weirref05_Fault (⟨0,0,0⟩ : weirref05_Fault)).toArray]) (.ca 2 23 (hS191.blk 1 rfl) (.ca 3 29 (hS191.blk 0 rfl) .nil)) Tryz.func5 ?_
   cases Option.some.inj hp186
   exact hR _ _ ⟨rfl,hS202⟩
  refine sS 1 (iR p5_11 6 14::td310) 24 (t90.Code == 0) (fun h204 => ?_) fun h205 => ?_
  ·have hp206:=ite_t hv152 h204
   refine sR 2 (iR p5_11 8 12::td310) ?_
   obtain ⟨t207,hr208,hp209⟩:=bind_some' hp206
   have hS219:=hS150.pick1
   obtain ⟨Z220,hz221,hS222,hs223,hb224⟩:=hS219.lendrow len_api_Token (by omega)
   have hS225:=hS222.pick1
   obtain ⟨Z226,hz227,hS228,hs229,hb230⟩:=hS225.lendrow len_api_Init (by omega)
   have hS231:=hS228.pick1
   obtain ⟨Z232,hz233,hS234,hs235,hb236⟩:=hS231.lendrow len_api_Ref (by omega)
   have hS237:=hS234.pick1
   obtain ⟨Z238,hz239,hS240,hs241,hb242⟩:=hS237.lendrow len_api_Node (by omega)
   have hS243:=hS240.pick1
   obtain ⟨Z244,hz245,hS246,hs247,hb248⟩:=hS243.lendrow len_api_Token (by omega)
   have hS249:=hS246.pick1
   obtain ⟨Z250,hz251,hS252,hs253,hb254⟩:=hS249.lendrow len_api_Token (by omega)
   have hS255:=hS252.pick1
   obtain ⟨Z256,hz257,hS258,hs259,hb260⟩:=hS255.lendrow len_api_Token (by omega)
   have hS261:=hS258.pick1
   refine rC (weirref07_reader__next.ok (⟨t10,t11,t89,t90,(⟨t14,t15,t16,([] : List (List api_Instr)),t17,t18,t19⟩ : api_Test),t20,t21,([] : List (List api_Token)),t22,t23⟩ : weirref07_reader) Q25 Q26 Q27 Q28 Q29 none 0 Q30 Q31 Q32 Q33 Q34 Q35 Q36 Q37 none 0 Q38 Q39 hS261 (hs223.up (Zm.Le.trans hz227 (Zm.Le.trans hz233 (Zm.Le.trans hz239 (Zm.Le.trans hz245 (Zm.Le.trans hz251 hz257)))))) (hs229.up (Zm.Le.trans hz233 (Zm.Le.trans hz239 (Zm.Le.trans hz245 (Zm.Le.trans hz251 hz257))))) (SlZ.nil _ _ _ _ _) (hs235.up (Zm.Le.trans hz239 (Zm.Le.trans hz245 (Zm.Le.trans hz251 hz257)))) (hs241.up (Zm.Le.trans hz245 (Zm.Le.trans hz251 hz257))) (hs247.up (Zm.Le.trans hz251 hz257)) (hs253.up hz257) (SlZ.nil _ _ _ _ _) hs259 hr208) ?_
   rintro _ w262 ⟨rfl,hS263⟩
   refine ⟨_,rfl,?_⟩
   have hS264:=hb260 _ _ hS263
   have hS265:=hb254 _ _ hS264
   have hS266:=hb248 _ _ hS265
   have hS267:=hb242 _ _ hS266
   have hS268:=hb236 _ _ hS267
   have hS269:=hb230 _ _ hS268
   have hS270:=hb224 _ _ hS269
   refine sS 2 (iR p5_11 11 9::td310) 29 (t207.Kind != 0) (fun h271 => ?_) fun h272 => ?_
   ·have hp273:=ite_t hp209 h271
    refine sR 13 (.inRegion (opsOf (cd5 [1,1,1,1,0,1,0])) [1]::td309) ?_
    obtain ⟨t274,hr275,hp276⟩:=bind_some' hp273
    obtain ⟨Z277,hz278,hS279,hs280,hb281⟩:=hS270.lendrow len_api_Token (by omega)
    obtain ⟨Z282,hz283,hS284,hs285,hb286⟩:=hS279.lendrow len_api_Init (by omega)
    obtain ⟨Z287,hz288,hS289,hs290,hb291⟩:=hS284.lendrow len_api_Ref (by omega)
    obtain ⟨Z292,hz293,hS294,hs295,hb296⟩:=hS289.lendrow len_api_Node (by omega)
    obtain ⟨Z297,hz298,hS299,hs300,hb301⟩:=hS294.lendrow len_api_Token (by omega)
    obtain ⟨Z302,hz303,hS304,hs305,hb306⟩:=hS299.lendrow len_api_Token (by omega)
    obtain ⟨Z307,hz308,hS309,hs310,hb311⟩:=hS304.lendrow len_api_Token (by omega)
    refine rC (weirref07_reader__wrong.ok (⟨t10,t11,t89,t90,(⟨t14,t15,t16,([] : List (List api_Instr)),t17,t18,t19⟩ : api_Test),t20,t21,([] : List (List api_Token)),t22,t23⟩ : weirref07_reader) Q25 Q26 Q27 Q28 Q29 none 0 Q30 Q31 Q32 Q33 Q34 Q35 Q36 Q37 none 0 Q38 Q39 hS309 (hs280.up (Zm.Le.trans hz283 (Zm.Le.trans hz288 (Zm.Le.trans hz293 (Zm.Le.trans hz298 (Zm.Le.trans hz303 hz308)))))) (hs285.up (Zm.Le.trans hz288 (Zm.Le.trans hz293 (Zm.Le.trans hz298 (Zm.Le.trans hz303 hz308))))) (SlZ.nil _ _ _ _ _) (hs290.up (Zm.Le.trans hz293 (Zm.Le.trans hz298 (Zm.Le.trans hz303 hz308)))) (hs295.up (Zm.Le.trans hz298 (Zm.Le.trans hz303 hz308))) (hs300.up (Zm.Le.trans hz303 hz308)) (hs305.up hz308) (SlZ.nil _ _ _ _ _) hs310 hr275) ?_
    rintro _ w312 ⟨rfl,hS313⟩
    refine ⟨_,rfl,?_⟩
    have hS314:=hb311 _ _ hS313
    have hS315:=hb306 _ _ hS314
    have hS316:=hb301 _ _ hS315
    have hS317:=hb296 _ _ hS316
    have hS318:=hb291 _ _ hS317
    have hS319:=hb286 _ _ hS318
    have hS320:=hb281 _ _ hS319
    refine sR 1 td309 ?_
    have hS321:=hS320.pick9
    have hS322:=hS321.drop
    have hS323:=hS322.pick8
    have hS324:=hS323.pick7
    have hS325:=hS324.pick7
    have hS326:=hS325.pick7
    have hS327:=hS326.pick7
    have hS328:=hS327.pick7
    have hS329:=hS328.pick7
    have hS330:=hS329.pick7
    have hS331:=hS330.pick8
    have hS332:=hS331.pick9
    have hS333:=hS332.pick10
    refine rF (mk 54 [(2,.pointer (some ⟨b1,0,none⟩)),(3,.pointer (some ⟨b5,0,none⟩)),(4,.pointer (some ⟨Q25,0,none⟩)),(6,.pointer (some ⟨b145,0,none⟩))]) ?_
    exact J157 t274 (Option.some.inj hp276) _ _ hS333
   have hp334:=ite_f hp209 h272
   refine sR 5 (iR p5_11 16 4::td310) ?_
   refine rL1 3 (.tmp 34) 2 (Cells.mid' (pre:=[.slice Q26 t10.length Q27]) (cs:=enc_weirref05_Fault t11) (post:=[.int .i64 t89] ++ (enc_weirref05_Fault t90) ++ [.string t14,.string t15,.slice Q28 t16.length Q29,.slice none 0 0,.slice Q30 t17.length Q31,.int .i64 t18,.slice Q32 t19.length Q33] ++ [.slice Q34 t20.length Q35] ++ [.slice Q36 t21.length Q37] ++ [.slice none 0 0] ++ [.slice Q38 t22.length Q39] ++ [.int .i64 t23]) (off:=1) (hS270.blk 7 rfl) (by simp [len_weirref05_Fault,len_weirref05_Fault]) (by simp)) ?_
   refine sS 1 (.inRegion (opsOf p5_11) [18,19]::td310) 36 (t11.Code != 0) (fun h335 => ?_) fun h336 => ?_
   ·have hp337:=ite_t hp334 h335
    refine sR 6 (.inRegion (opsOf (cd5 [1,1,1,1,0,1,0])) [1]::td309) ?_
    obtain ⟨t338,hr339,hp340⟩:=bind_some' hp337
    obtain ⟨Z341,hz342,hS343,hs344,hb345⟩:=hS270.lendrow len_api_Token (by omega)
    obtain ⟨Z346,hz347,hS348,hs349,hb350⟩:=hS343.lendrow len_api_Init (by omega)
    obtain ⟨Z351,hz352,hS353,hs354,hb355⟩:=hS348.lendrow len_api_Ref (by omega)
    obtain ⟨Z356,hz357,hS358,hs359,hb360⟩:=hS353.lendrow len_api_Node (by omega)
    obtain ⟨Z361,hz362,hS363,hs364,hb365⟩:=hS358.lendrow len_api_Token (by omega)
    obtain ⟨Z366,hz367,hS368,hs369,hb370⟩:=hS363.lendrow len_api_Token (by omega)
    obtain ⟨Z371,hz372,hS373,hs374,hb375⟩:=hS368.lendrow len_api_Token (by omega)
    refine rC (weirref07_reader__wrong.ok (⟨t10,t11,t89,t90,(⟨t14,t15,t16,([] : List (List api_Instr)),t17,t18,t19⟩ : api_Test),t20,t21,([] : List (List api_Token)),t22,t23⟩ : weirref07_reader) Q25 Q26 Q27 Q28 Q29 none 0 Q30 Q31 Q32 Q33 Q34 Q35 Q36 Q37 none 0 Q38 Q39 hS373 (hs344.up (Zm.Le.trans hz347 (Zm.Le.trans hz352 (Zm.Le.trans hz357 (Zm.Le.trans hz362 (Zm.Le.trans hz367 hz372)))))) (hs349.up (Zm.Le.trans hz352 (Zm.Le.trans hz357 (Zm.Le.trans hz362 (Zm.Le.trans hz367 hz372))))) (SlZ.nil _ _ _ _ _) (hs354.up (Zm.Le.trans hz357 (Zm.Le.trans hz362 (Zm.Le.trans hz367 hz372)))) (hs359.up (Zm.Le.trans hz362 (Zm.Le.trans hz367 hz372))) (hs364.up (Zm.Le.trans hz367 hz372)) (hs369.up hz372) (SlZ.nil _ _ _ _ _) hs374 hr339) ?_
    rintro _ w376 ⟨rfl,hS377⟩
    refine ⟨_,rfl,?_⟩
    have hS378:=hb375 _ _ hS377
    have hS379:=hb370 _ _ hS378
    have hS380:=hb365 _ _ hS379
    have hS381:=hb360 _ _ hS380
    have hS382:=hb355 _ _ hS381
    have hS383:=hb350 _ _ hS382
    have hS384:=hb345 _ _ hS383
    refine sR 1 td309 ?_
    have hS385:=hS384.pick9
    have hS386:=hS385.drop
    have hS387:=hS386.pick8
    have hS388:=hS387.pick7
    have hS389:=hS388.pick7
    have hS390:=hS389.pick7
    have hS391:=hS390.pick7
    have hS392:=hS391.pick7
    have hS393:=hS392.pick7
    have hS394:=hS393.pick7
    have hS395:=hS394.pick8
    have hS396:=hS395.pick9
    have hS397:=hS396.pick10
    refine rF (mk 54 [(2,.pointer (some ⟨b1,0,none⟩)),(3,.pointer (some ⟨b5,0,none⟩)),(4,.pointer (some ⟨Q25,0,none⟩)),(6,.pointer (some ⟨b145,0,none⟩))]) ?_
    exact J157 t338 (Option.some.inj hp340) _ _ hS397
   have hp398:=ite_f hp334 h336
   refine sR 5 td309 ?_
   have hS399:=hS270.pick9
   have hS400:=hS399.drop
   have hS401:=hS400.pick8
   have hS402:=hS401.pick7
   have hS403:=hS402.pick7
   have hS404:=hS403.pick7
   have hS405:=hS404.pick7
   have hS406:=hS405.pick7
   have hS407:=hS406.pick7
   have hS408:=hS407.pick7
   have hS409:=hS408.pick8
   have hS410:=hS409.pick9
   have hS411:=hS410.pick10
   refine rF (mk 54 [(2,.pointer (some ⟨b1,0,none⟩)),(3,.pointer (some ⟨b5,0,none⟩)),(4,.pointer (some ⟨Q25,0,none⟩)),(6,.pointer (some ⟨b145,0,none⟩))]) ?_
   exact J157 t90 (Option.some.inj hp398) _ _ hS411
  have hp412:=ite_f hv152 h205
  refine sR 17 td309 ?_
  have hS413:=hS150.pick9
  have hS414:=hS413.drop
  have hS415:=hS414.pick7
  have hS416:=hS415.pick7
  have hS417:=hS416.pick7
  have hS418:=hS417.pick7
  have hS419:=hS418.pick7
  have hS420:=hS419.pick7
  have hS421:=hS420.pick7
  have hS422:=hS421.pick8
  have hS423:=hS422.pick9
  have hS424:=hS423.pick10
  refine rF (mk 54 [(2,.pointer (some ⟨b1,0,none⟩)),(3,.pointer (some ⟨b5,0,none⟩)),(4,.pointer (some ⟨Q25,0,none⟩)),(6,.pointer (some ⟨b145,0,none⟩))]) ?_
  exact J157 t90 (Option.some.inj hp412) _ _ hS424

noncomputable def cd16 (p : List Nat) : Code := sub (bodyOf Tryz.f16) p
def weirlaw05_number.f (a0i : Int) : Option Int :=
  some (a0i)
set_option maxHeartbeats 16000000 in
theorem weirlaw05_number.ok (a0i : Int) {w0 : World} {Z : Zm} {fs : List XObj} {w : World} (hS0 : St w0 Z (fs) w) {q0 : Int} (hp0 : weirlaw05_number.f a0i = some q0) :
    Calls Tryz.prog 16 #[.iface 57 (.int .i64 a0i)] w (fun e w' => e = .returned (.int .i64 q0) ∧ St w0 Z (fs) w'):=by
  refine calls_abs ?_; intro R hR
  unfold weirlaw05_number.f at hp0
  refine calls_of_runs (fn:=Tryz.f16) (c:=cd16 []) Tryz.func16 (by kernel_rfl) (al:=[.iface 57 (.int .i64 a0i)]) rfl (n:=8) rfl ?_
  refine sR 26 [.code (cd16 [1,0,1,0,1,0,1,1]),.inBlock 0,.code (cd16 [1,1])] ?_
  refine rR (.int .i64 a0i) Tryz.func16 ?_
  cases Option.some.inj hp0
  exact hR _ _ ⟨rfl,hS0⟩

noncomputable def cd6 (p : List Nat) : Code := sub (bodyOf Tryz.f6) p
abbrev p6_6:=cd6 [1,0,1,0,1,0,1,1]
abbrev p6_12:=cd6 [1,0,1,0,1,1,1,0,1,1]
abbrev p6_13:=cd6 [1,0,1,0,1,1,1,1,1,0,1,1,0,0]
abbrev p6_14:=cd6 [1,0,1,0,1,1,1,1,1,0,1,1,0,1]
abbrev td311:List Item:=[.code (cd6 [1,1])]
abbrev td312:List Item:=.inBlock 0::td311
def weirlaw05_Seen.f (a0 : PErr) : Option weirref05_Fault :=
  (if (PErr.isNil a0) = true then some ((⟨0,0,0⟩ : weirref05_Fault)) else (PErr.cas a0 (some ((⟨0,0,(-1)⟩ : weirref05_Fault))) (fun n13 => some ((⟨(-1),0,n13⟩ : weirref05_Fault))) (fun n14 n15 n16 => (weirlaw05_number.f n16 >>= (fun t31 => some ((⟨n14,n15,t31⟩ : weirref05_Fault)))))))
set_option maxHeartbeats 16000000 in
theorem weirlaw05_Seen.ok (a0 : PErr) (va0 : Value) {w0 : World} {Z : Zm} {fs : List XObj} {w : World} (hS0 : St w0 Z (fs) w) (hea0 : RepE 57 58 Z va0 a0) {q0 : weirref05_Fault} (hp0 : weirlaw05_Seen.f a0 = some q0) :
    Calls Tryz.prog 6 #[va0] w (fun e w' => e = .returned (.agg (enc_weirref05_Fault q0).toArray) ∧ St w0 Z (fs) w'):=by
  refine calls_abs ?_; intro R hR
  unfold weirlaw05_Seen.f at hp0
  refine calls_of_runs (fn:=Tryz.f6) (c:=cd6 []) Tryz.func6 (by kernel_rfl) (al:=[va0]) rfl (n:=33) rfl ?_
  refine sR 2 [.inRegion (opsOf (cd6 [0])) [0],.code (cd6 [1])] ?_
  refine rA 29 (.agg (enc_weirref05_Fault (⟨0,0,0⟩ : weirref05_Fault)).toArray) (enc_weirref05_Fault (⟨0,0,0⟩ : weirref05_Fault)) hS0 ?_
  intro b1 w2 hS3
  refine sR 9 (.inRegion (opsOf (cd6 [1,0,1,0,0])) [0]::.code (cd6 [1,0,1,0,1])::td312) ?_
  refine rV (.binOp .eql 25 (.tmp 6) (.const (.nilIface)) 25) (.bool (PErr.isNil a0)) (fun o ho _ => x_errNil (neg:=false) hea0 (by kernel_rfl) (by kernel_rfl) (fun _ _ => (by kernel_rfl)) ho) ?_
  refine r_split (PErr.isNil a0) (fun h5 => ?_) (fun h6 => ?_)
  ·have hp7:=ite_t hp0 h5
   refine sR 9 (.inRegion (opsOf (cd6 [1,0,1,0,1,0,1,0])) [1]::.code p6_6::td312) ?_
   refine rSA 29 (.tmp 2) (.tmp 8) (enc_weirref05_Fault (⟨0,0,0⟩ : weirref05_Fault)) hS3 (one_weirref05_Fault _) ?_
   intro w8 hS9
   refine sR 1 (.code p6_6::td312) ?_
   have hS10:=hS9.drop
   refine rRc (.agg (enc_weirref05_Fault (⟨0,0,0⟩ : weirref05_Fault)).toArray) (.ca 2 29 (hS9.blk 0 rfl) .nil) Tryz.func6 ?_
   cases Option.some.inj hp7
   exact hR _ _ ⟨rfl,hS10⟩
  have hp12:=ite_f hp0 h6
  refine sR 4 (.inRegion (opsOf (cd6 [1,0,1,0,1,1,0])) [0,1,2]::.code (cd6 [1,0,1,0,1,1,1])::td312) ?_
  rcases a0 with _ | n13 | ⟨n14,n15,n16⟩
  ·have hp17:=cas_nil hp12
   have hea0 : va0 = .nilIface:=hea0
   subst hea0
   refine sR 17 [.inRegion (opsOf (cd6 [1,1,0])) [1],.code (cd6 [1,1,1])] ?_
   refine rSA 29 (.tmp 2) (.tmp 33) (enc_weirref05_Fault (⟨0,0,(-1)⟩ : weirref05_Fault)) hS3 (one_weirref05_Fault _) ?_
   intro w18 hS19
   refine sR 1 [.code (cd6 [1,1,1])] ?_
   have hS20:=hS19.drop
   refine rRc (.agg (enc_weirref05_Fault (⟨0,0,(-1)⟩ : weirref05_Fault)).toArray) (.ca 2 29 (hS19.blk 0 rfl) .nil) Tryz.func6 ?_
   cases Option.some.inj hp17
   exact hR _ _ ⟨rfl,hS20⟩
  ·have hp22:=cas_num hp12
   have hea0 : va0 = .iface 57 (.int .i64 n13):=hea0
   subst hea0
   refine sR 13 (.inRegion (opsOf (cd6 [1,0,1,0,1,1,1,0,1,0])) [2]::.code p6_12::td312) ?_
   refine rSA 29 (.tmp 2) (.tmp 13) (enc_weirref05_Fault (⟨(-1),0,n13⟩ : weirref05_Fault)) hS3 (one_weirref05_Fault _) ?_
   intro w23 hS24
   refine sR 1 (.code p6_12::td312) ?_
   have hS25:=hS24.drop
   refine rRc (.agg (enc_weirref05_Fault (⟨(-1),0,n13⟩ : weirref05_Fault)).toArray) (.ca 2 29 (hS24.blk 0 rfl) .nil) Tryz.func6 ?_
   cases Option.some.inj hp22
   exact hR _ _ ⟨rfl,hS25⟩
  have hp27:=cas_pos hp12
  obtain ⟨b28,hea0,hs29⟩:=hea0
  subst hea0
  refine sR 23 (.code p6_13::.code p6_14::td312) ?_
  refine r_drawn3 (C:=St w0 Z (xblk b1 29 (enc_weirref05_Fault (⟨0,0,0⟩ : weirref05_Fault))::fs)) (c:=p6_13) (id:=11) (by kernel_rfl) (by kernel_rfl) 14 (Nat.le_of_ble_eq_true (by kernel_rfl)) (by kernel_rfl) (by kernel_rfl) (by kernel_rfl) (is:=[0,1,2,3,4,5,6,7,8,9,10,11,12,13]) (rest:=[14]) (by kernel_rfl) (by kernel_rfl) hS3.drew ?_
  refine qR 3 (rg 3 11) ?_
  refine qL1 3 (.tmp 21) 0 (fun w hC => (hs29.cells hC)) ?_
  refine qR 3 (rg 7 7) ?_
  refine qL1 3 (.tmp 25) 1 (fun w hC => (hs29.cells hC)) ?_
  refine qR 3 [11,12,13] ?_
  refine qL1 25 (.tmp 29) 2 (fun w hC => (hs29.cells hC)) ?_
  obtain ⟨t31,hr32,hp33⟩:=bind_some' hp27
  refine q_call1 (c:=(hd p6_13 14)) (i:=12) (d:=(some 31)) (v:=.int .i64 t31) (g:=16) (args:=#[.iface 57 (.int .i64 n16)]) (by kernel_rfl) (by kernel_rfl) (by kernel_rfl) (by kernel_rfl) (fun w hC => by
   refine (weirlaw05_number.ok n16 hC hr32).mono ?_
   rintro e w2 ⟨rfl,h2⟩
   exact ⟨rfl,h2⟩) ?_
  refine qR 1 [] ?_
  refine Qs.nil ?_
  intro w34 hS35
  refine rSA 29 (.tmp 2) (.tmp 32) (enc_weirref05_Fault (⟨n14,n15,t31⟩ : weirref05_Fault)) hS35 (one_weirref05_Fault _) ?_
  intro w36 hS37
  refine sR 1 (.code p6_14::td312) ?_
  refine r_isret (c:=p6_14) (by kernel_rfl) ?_
  have hS38:=hS37.drop
  refine rRc (.agg (enc_weirref05_Fault (⟨n14,n15,t31⟩ : weirref05_Fault)).toArray) (.ca 2 29 (hS37.blk 0 rfl) .nil) Tryz.func6 ?_
  cases Option.some.inj hp33
  exact hR _ _ ⟨rfl,hS38⟩

noncomputable def cd3 (p : List Nat) : Code := sub (bodyOf Tryz.f3) p
abbrev p3_4:=cd3 [1,1,1,0]
def weirlaw07_LitmusInstrs.f (a0 : ByteArray) : Option Bool :=
  (litmus_Instruction.f a0 >>= (fun (t1,t2) => (weirref07_Instruction.f a0 >>= (fun (t18,t19) => (if (decide (t1 = t18)) = true then (weirlaw05_Seen.f t2 >>= (fun t41 => (if (decide (t41 = t19)) = true then some (true) else some (false)))) else some (false))))))
set_option maxHeartbeats 16000000 in
theorem weirlaw07_LitmusInstrs.ok (a0 : ByteArray) {w0 : World} {Z : Zm} {fs : List XObj} {w : World} (hS0 : St w0 Z (fs) w) (hE : Env Z) {q0 : Bool} (hp0 : weirlaw07_LitmusInstrs.f a0 = some q0) :
    Calls Tryz.prog 3 #[.string a0] w (fun e w' => e = .returned (.bool q0) ∧ St w0 Z (fs) w'):=by
  refine calls_abs ?_; intro R hR
  unfold weirlaw07_LitmusInstrs.f at hp0
  refine calls_of_runs (fn:=Tryz.f3) (c:=cd3 []) Tryz.func3 (by kernel_rfl) (al:=[.string a0]) rfl (n:=25) rfl ?_
  refine sR 7 [iR (cd3 [1,0]) 1 7,.code (cd3 [1,1])] ?_
  obtain ⟨⟨t1,t2⟩,hr4,hp5⟩:=bind_some' hp0
  try dsimp only at hp5
  refine rC (litmus_Instruction.ok a0 hS0 hE hr4) ?_
  rintro _ w7 ⟨Q3,Z9,hz10,rfl,hS8,hs11⟩
  refine ⟨_,rfl,?_⟩
  refine sR 3 [.inRegion (opsOf (cd3 [1,0])) [5,6,7],.code (cd3 [1,1])] ?_
  refine rA 23 (.agg (enc_api_Instr (⟨0,(⟨#[]⟩ : ByteArray),(⟨#[]⟩ : ByteArray),(⟨#[]⟩ : ByteArray),0⟩ : api_Instr)).toArray) (enc_api_Instr (⟨0,(⟨#[]⟩ : ByteArray),(⟨#[]⟩ : ByteArray),(⟨#[]⟩ : ByteArray),0⟩ : api_Instr)) hS8 ?_
  intro b12 w13 hS14
  refine rSA 23 (.tmp 3) (.tmp 10) (enc_api_Instr t1) hS14 (one_api_Instr _) ?_
  intro w16 hS17
  refine sR 5 [iR (cd3 [1,1,0]) 1 8,.code (cd3 [1,1,1])] ?_
  obtain ⟨⟨t18,t19⟩,hr20,hp21⟩:=bind_some' hp5
  try dsimp only at hp21
  refine rC (weirref07_Instruction.ok a0 hS17 hr20) ?_
  rintro _ w22 ⟨rfl,hS23⟩
  refine ⟨_,rfl,?_⟩
  refine sR 3 [iR (cd3 [1,1,0]) 5 4,.code (cd3 [1,1,1])] ?_
  refine rA 23 (.agg (enc_api_Instr (⟨0,(⟨#[]⟩ : ByteArray),(⟨#[]⟩ : ByteArray),(⟨#[]⟩ : ByteArray),0⟩ : api_Instr)).toArray) (enc_api_Instr (⟨0,(⟨#[]⟩ : ByteArray),(⟨#[]⟩ : ByteArray),(⟨#[]⟩ : ByteArray),0⟩ : api_Instr)) hS23 ?_
  intro b24 w25 hS26
  refine rA 29 (.agg (enc_weirref05_Fault (⟨0,0,0⟩ : weirref05_Fault)).toArray) (enc_weirref05_Fault (⟨0,0,0⟩ : weirref05_Fault)) hS26 ?_
  intro b28 w29 hS30
  have hS32:=hS30.pick1
  refine rSA 23 (.tmp 5) (.tmp 15) (enc_api_Instr t18) hS32 (one_api_Instr _) ?_
  intro w33 hS34
  have hS35:=hS34.pick1
  refine rSA 29 (.tmp 6) (.tmp 16) (enc_weirref05_Fault t19) hS35 (one_weirref05_Fault _) ?_
  intro w36 hS37
  refine sR 2 [.code p3_4,.code (cd3 [1,1,1,1])] ?_
  refine r_quiet hS37 (c:=p3_4) (id:=3) (by kernel_rfl) (by kernel_rfl) (by kernel_rfl) (is:=[0,1,2,3,4,5,6,7,8,9]) (by kernel_rfl) ?_
  refine qLa 23 (.tmp 3) (fun w hC => (hC.blk 2 rfl)) ?_
  refine qLa 23 (.tmp 5) (fun w hC => (hC.blk 1 rfl)) ?_
  refine qV (.binOp .eql 23 (.tmp 17) (.tmp 18) 23) (.bool (decide (t1 = t18))) (fun w hC o ho _ => x_eql_api_Instr (by kernel_rfl) (by kernel_rfl) ho) ?_
  refine q_split (decide (t1 = t18)) (fun h38 => ?_) (fun h39 => ?_)
  ·have hp40:=ite_t hp21 h38
   refine qR 2 (rg 5 5) ?_
   obtain ⟨t41,hr42,hp43⟩:=bind_some' hp40
   refine q_call1 (c:=p3_4) (i:=5) (d:=(some 22)) (v:=.agg (enc_weirref05_Fault t41).toArray) (g:=6) (args:=#[Q3]) (by kernel_rfl) (by kernel_rfl) (by kernel_rfl) (by kernel_rfl) (fun w hC => by
    refine (weirlaw05_Seen.ok t2 Q3 hC hs11 hr42).mono ?_
    rintro e w2 ⟨rfl,h2⟩
    have hS44:=h2.pick2
    have hS45:=hS44.pick2
    have hS46:=hS45.pick2
    exact ⟨rfl,hS46⟩) ?_
   refine qLa 29 (.tmp 6) (fun w hC => (hC.blk 0 rfl)) ?_
   refine qV (.binOp .eql 29 (.tmp 22) (.tmp 23) 29) (.bool (decide (t41 = t19))) (fun w hC o ho _ => x_eql_weirref05_Fault (by kernel_rfl) (by kernel_rfl) ho) ?_
   refine q_split (decide (t41 = t19)) (fun h47 => ?_) (fun h48 => ?_)
   ·have hp49:=ite_t hp43 h47
    refine qR 2 [] ?_
    refine Qs.nil ?_
    intro w50 hS51
    have hS52:=hS51.drop
    have hS53:=hS52.drop
    have hS54:=hS53.drop
    have hS55:=hS54.less hz10
    refine rR (.bool true) Tryz.func3 ?_
    cases Option.some.inj hp49
    exact hR _ _ ⟨rfl,hS55⟩
   have hp57:=ite_f hp43 h48
   refine qR 2 [] ?_
   refine Qs.nil ?_
   intro w58 hS59
   have hS60:=hS59.drop
   have hS61:=hS60.drop
   have hS62:=hS61.drop
   have hS63:=hS62.less hz10
   refine rR (.bool false) Tryz.func3 ?_
   cases Option.some.inj hp57
   exact hR _ _ ⟨rfl,hS63⟩
  have hp65:=ite_f hp21 h39
  refine qR 7 [] ?_
  refine Qs.nil ?_
  intro w66 hS67
  have hS68:=hS67.drop
  have hS69:=hS68.drop
  have hS70:=hS69.drop
  have hS71:=hS70.less hz10
  refine rR (.bool false) Tryz.func3 ?_
  cases Option.some.inj hp65
  exact hR _ _ ⟨rfl,hS71⟩

end
end Go.Proofs.YtkhcbamlhckilaaGreatDoor.K
