/- The walk, part 1: each Go function as a plain Lean function, and that its call answers as that function says. No condition. -/
import Derived.Test.YtdcdpigneonedaaGreatDoorE
import Derived.Test.YtdcdpigneonedaaGreatDoorNG
import Derived.Test.YtdcdpigneonedaaGreatDoorNP
import Derived.Test.YtdcdpigneonedaaGreatDoorNM
import Derived.Test.YtdcdpigneonedaaGreatDoorNI
import Derived.Test.YtdcdpigneonedaaGreatDoorNV
import Derived.Test.YtdcdpigneonedaaGreatDoorNX
import Derived.Test.YtdcdpigneonedaaGreatDoorNA
set_option linter.unusedVariables false
set_option linter.unusedSimpArgs false
set_option maxRecDepth 100000
namespace Go.Proofs.YtdcdpigneonedaaGreatDoor.K
open Go Go.RowKit
noncomputable section
noncomputable def cd24 (p : List Nat) : Code := sub (bodyOf Tryz.f24) p
def cond_reader__sees.f (a0v : cond_reader) (a1 : Int) (a2 : Int) (a3 : ByteArray) : Option Bool :=
  (if (decide ((IntKind.i64.wrap (a0v.at_ + a1)) < (a0v.l.length : Int))) = true then (if 0 ≤ (IntKind.i64.wrap (a0v.at_ + a1)) ∧ (IntKind.i64.wrap (a0v.at_ + a1)) < (a0v.l.length : Int) then (if (((gt a0v.l (IntKind.i64.wrap (a0v.at_ + a1))).Kind) == a2) = true then (if 0 ≤ (IntKind.i64.wrap (a0v.at_ + a1)) ∧ (IntKind.i64.wrap (a0v.at_ + a1)) < (a0v.l.length : Int) then (if (seq ((gt a0v.l (IntKind.i64.wrap (a0v.at_ + a1))).Text) a3) = true then some (true) else some (false)) else none) else some (false)) else none) else some (false))
set_option maxHeartbeats 16000000 in
theorem cond_reader__sees.ok (a0v : cond_reader) (a1 : Int) (a2 : Int) (a3 : ByteArray) (ba0 : Nat) (Aa0v_0 : Option Addr) (ca0v_0 : Nat) (Aa0v_4 : Option Addr) (ca0v_4 : Nat) {w0 : World} {Z : Zm} {fs : List XObj} {w : World} (hS0 : St w0 Z (xblk ba0 44 ([.slice Aa0v_0 a0v.l.length ca0v_0] ++ [.int .i64 a0v.at_] ++ (enc_api_Token a0v.last) ++ [.int .i64 a0v.depth] ++ [.slice Aa0v_4 a0v.c.length ca0v_4]) :: fs) w) (ha0v_0 : SlZ (flat enc_api_Token) 7 Z Aa0v_0 ca0v_0 a0v.l) (ha0v_4 : SlZ (flat enc_api_Node) 6 Z Aa0v_4 ca0v_4 a0v.c) {q0 : Bool} (hp0 : cond_reader__sees.f a0v a1 a2 a3 = some q0) :
    Calls Tryz.prog 24 #[.pointer (some ⟨ba0, 0, none⟩), .int .i64 a1, .int .i64 a2, .string a3] w (fun e w' => e = .returned (.bool q0) ∧ St w0 Z (xblk ba0 44 ([.slice Aa0v_0 a0v.l.length ca0v_0] ++ [.int .i64 a0v.at_] ++ (enc_api_Token a0v.last) ++ [.int .i64 a0v.depth] ++ [.slice Aa0v_4 a0v.c.length ca0v_4]) :: fs) w') := by
  refine calls_abs ?_; intro R hR
  unfold cond_reader__sees.f at hp0
  refine calls_of_runs (fn := Tryz.f24) (c := cd24 []) Tryz.func24 (by kernel_rfl) (al := [.pointer (some ⟨ba0, 0, none⟩), .int .i64 a1, .int .i64 a2, .string a3]) rfl (n := 51) rfl ?_
  refine sx_run 5 (todo' := [.code (cd24 [1, 0]), .code (cd24 [1, 1])]) (us := [(8, .bool false)]) (by kernel_rfl) ?_
  refine r_quiet hS0 (c := (cd24 [1, 0])) (id := 1) (by kernel_rfl) (by kernel_rfl) (by kernel_rfl) (is := [0, 1, 2, 3, 4, 5, 6, 7, 8, 9, 10, 11, 12, 13, 14, 15, 16, 17, 18, 19, 20, 21, 22, 23, 24, 25, 26, 27, 28, 29, 30, 31, 32, 33, 34, 35, 36, 37, 38, 39, 40, 41, 42, 43, 44, 45, 46]) (by kernel_rfl) ?_
  refine q_run 3 (is' := [3, 4, 5, 6, 7, 8, 9, 10, 11, 12, 13, 14, 15, 16, 17, 18, 19, 20, 21, 22, 23, 24, 25, 26, 27, 28, 29, 30, 31, 32, 33, 34, 35, 36, 37, 38, 39, 40, 41, 42, 43, 44, 45, 46]) (us := [(9, .pointer (some ⟨ba0, 0, none⟩)), (10, .pointer (some ⟨ba0, 0, none⟩)), (11, .pointer (some ⟨ba0, 1, none⟩))]) (by kernel_rfl) ?_
  refine q_load (c := (cd24 [1, 0])) (i := 3) (d := (some 12)) (ty := 3) (t := 3) (x := (.tmp 11)) (p := ⟨ba0, 1, none⟩) (v := .int .i64 a0v.at_) (by kernel_rfl) (by kernel_rfl) (by kernel_rfl) (fun w hC => (loads_at 1 (hC.blk 0 rfl) (by kernel_rfl) (by kernel_rfl))) ?_
  refine q_run 5 (is' := [9, 10, 11, 12, 13, 14, 15, 16, 17, 18, 19, 20, 21, 22, 23, 24, 25, 26, 27, 28, 29, 30, 31, 32, 33, 34, 35, 36, 37, 38, 39, 40, 41, 42, 43, 44, 45, 46]) (us := [(13, .int .i64 a1), (14, .int .i64 (IntKind.i64.wrap (a0v.at_ + a1))), (15, .pointer (some ⟨ba0, 0, none⟩)), (16, .pointer (some ⟨ba0, 0, none⟩)), (17, .pointer (some ⟨ba0, 0, none⟩))]) (by kernel_rfl) ?_
  refine q_load (c := (cd24 [1, 0])) (i := 9) (d := (some 18)) (ty := 22) (t := 22) (x := (.tmp 17)) (p := ⟨ba0, 0, none⟩) (v := .slice Aa0v_0 a0v.l.length ca0v_0) (by kernel_rfl) (by kernel_rfl) (by kernel_rfl) (fun w hC => (loads_at 0 (hC.blk 0 rfl) (by kernel_rfl) (by kernel_rfl))) ?_
  refine q_splitr 2 (is' := [12, 13, 14, 15, 16, 17, 18, 19, 20, 21, 22, 23, 24, 25, 26, 27, 28, 29, 30, 31, 32, 33, 34, 35, 36, 37, 38, 39, 40, 41, 42, 43, 44, 45, 46]) (us := [(19, .int .i64 (a0v.l.length : Int))]) (d := 20) (t := (decide ((IntKind.i64.wrap (a0v.at_ + a1)) < (a0v.l.length : Int)))) (by kernel_rfl) (fun h1 => ?_) (fun h2 => ?_)
  ·skip
   have hp3 := ite_t hp0 h1
   refine q_run 4 (is' := [16, 17, 18, 19, 20, 21, 22, 23, 24, 25, 26, 27, 28, 29, 30, 31, 32, 33, 34, 35, 36, 37, 38, 39, 40, 41, 42, 43, 44, 45, 46]) (us := [(21, .bool true), (22, .pointer (some ⟨ba0, 0, none⟩)), (23, .pointer (some ⟨ba0, 0, none⟩)), (24, .pointer (some ⟨ba0, 0, none⟩))]) (by kernel_rfl) ?_
   refine q_load (c := (cd24 [1, 0])) (i := 16) (d := (some 25)) (ty := 22) (t := 22) (x := (.tmp 24)) (p := ⟨ba0, 0, none⟩) (v := .slice Aa0v_0 a0v.l.length ca0v_0) (by kernel_rfl) (by kernel_rfl) (by kernel_rfl) (fun w hC => (loads_at 0 (hC.blk 0 rfl) (by kernel_rfl) (by kernel_rfl))) ?_
   refine q_run 3 (is' := [20, 21, 22, 23, 24, 25, 26, 27, 28, 29, 30, 31, 32, 33, 34, 35, 36, 37, 38, 39, 40, 41, 42, 43, 44, 45, 46]) (us := [(26, .pointer (some ⟨ba0, 0, none⟩)), (27, .pointer (some ⟨ba0, 0, none⟩)), (28, .pointer (some ⟨ba0, 1, none⟩))]) (by kernel_rfl) ?_
   refine q_load (c := (cd24 [1, 0])) (i := 20) (d := (some 29)) (ty := 3) (t := 3) (x := (.tmp 28)) (p := ⟨ba0, 1, none⟩) (v := .int .i64 a0v.at_) (by kernel_rfl) (by kernel_rfl) (by kernel_rfl) (fun w hC => (loads_at 1 (hC.blk 0 rfl) (by kernel_rfl) (by kernel_rfl))) ?_
   refine q_run 2 (is' := [23, 24, 25, 26, 27, 28, 29, 30, 31, 32, 33, 34, 35, 36, 37, 38, 39, 40, 41, 42, 43, 44, 45, 46]) (us := [(30, .int .i64 a1), (31, .int .i64 (IntKind.i64.wrap (a0v.at_ + a1)))]) (by kernel_rfl) ?_
   obtain ⟨g4, hp5⟩ := ite_some hp3
   obtain ⟨b6, p7, hA8, hc9⟩ := ha0v_0.atF g4.1 g4.2
   refine q_indexAddr (c := (cd24 [1, 0])) (i := 23) (d := (some 32)) (ty := 0) (t := 22) (e := 24) (n := a0v.l.length) (cp := ca0v_0) (sz := 7) (kk := .i64) (x := (.tmp 25)) (y := (.tmp 31)) (b := b6) (o' := p7) (j := (IntKind.i64.wrap (a0v.at_ + a1))) (by kernel_rfl) (by kernel_rfl) (slv (by kernel_rfl) hA8) (by kernel_rfl) (by kernel_rfl) (by kernel_rfl) g4.1 g4.2 ?_
   refine q_run 1 (is' := [25, 26, 27, 28, 29, 30, 31, 32, 33, 34, 35, 36, 37, 38, 39, 40, 41, 42, 43, 44, 45, 46]) (us := [(33, .pointer (some ⟨b6, p7 + (IntKind.i64.wrap (a0v.at_ + a1)).toNat * 7, none⟩))]) (by kernel_rfl) ?_
   refine q_load (c := (cd24 [1, 0])) (i := 25) (d := (some 34)) (ty := 3) (t := 3) (x := (.tmp 33)) (p := ⟨b6, p7 + (IntKind.i64.wrap (a0v.at_ + a1)).toNat * 7, none⟩) (v := .int .i64 ((gt a0v.l (IntKind.i64.wrap (a0v.at_ + a1))).Kind)) (by kernel_rfl) (by kernel_rfl) (by kernel_rfl) (fun w hC => (loads_at 0 (hc9.cells hC) (by kernel_rfl) (by kernel_rfl))) ?_
   refine q_splitr 2 (is' := [28, 29, 30, 31, 32, 33, 34, 35, 36, 37, 38, 39, 40, 41, 42, 43, 44, 45, 46]) (us := [(35, .int .i64 a2)]) (d := 36) (t := (((gt a0v.l (IntKind.i64.wrap (a0v.at_ + a1))).Kind) == a2)) (by kernel_rfl) (fun h10 => ?_) (fun h11 => ?_)
   ·skip
    have hp12 := ite_t hp5 h10
    refine q_run 5 (is' := [33, 34, 35, 36, 37, 38, 39, 40, 41, 42, 43, 44, 45, 46]) (us := [(37, .bool true), (38, .bool true), (39, .pointer (some ⟨ba0, 0, none⟩)), (40, .pointer (some ⟨ba0, 0, none⟩)), (41, .pointer (some ⟨ba0, 0, none⟩))]) (by kernel_rfl) ?_
    refine q_load (c := (cd24 [1, 0])) (i := 33) (d := (some 42)) (ty := 22) (t := 22) (x := (.tmp 41)) (p := ⟨ba0, 0, none⟩) (v := .slice Aa0v_0 a0v.l.length ca0v_0) (by kernel_rfl) (by kernel_rfl) (by kernel_rfl) (fun w hC => (loads_at 0 (hC.blk 0 rfl) (by kernel_rfl) (by kernel_rfl))) ?_
    refine q_run 3 (is' := [37, 38, 39, 40, 41, 42, 43, 44, 45, 46]) (us := [(43, .pointer (some ⟨ba0, 0, none⟩)), (44, .pointer (some ⟨ba0, 0, none⟩)), (45, .pointer (some ⟨ba0, 1, none⟩))]) (by kernel_rfl) ?_
    refine q_load (c := (cd24 [1, 0])) (i := 37) (d := (some 46)) (ty := 3) (t := 3) (x := (.tmp 45)) (p := ⟨ba0, 1, none⟩) (v := .int .i64 a0v.at_) (by kernel_rfl) (by kernel_rfl) (by kernel_rfl) (fun w hC => (loads_at 1 (hC.blk 0 rfl) (by kernel_rfl) (by kernel_rfl))) ?_
    refine q_run 2 (is' := [40, 41, 42, 43, 44, 45, 46]) (us := [(47, .int .i64 a1), (48, .int .i64 (IntKind.i64.wrap (a0v.at_ + a1)))]) (by kernel_rfl) ?_
    obtain ⟨g13, hp14⟩ := ite_some hp12
    obtain ⟨b15, p16, hA17, hc18⟩ := ha0v_0.atF g13.1 g13.2
    refine q_indexAddr (c := (cd24 [1, 0])) (i := 40) (d := (some 49)) (ty := 0) (t := 22) (e := 24) (n := a0v.l.length) (cp := ca0v_0) (sz := 7) (kk := .i64) (x := (.tmp 42)) (y := (.tmp 48)) (b := b15) (o' := p16) (j := (IntKind.i64.wrap (a0v.at_ + a1))) (by kernel_rfl) (by kernel_rfl) (slv (by kernel_rfl) hA17) (by kernel_rfl) (by kernel_rfl) (by kernel_rfl) g13.1 g13.2 ?_
    refine q_run 1 (is' := [42, 43, 44, 45, 46]) (us := [(50, .pointer (some ⟨b15, p16 + (IntKind.i64.wrap (a0v.at_ + a1)).toNat * 7 + 1, none⟩))]) (by kernel_rfl) ?_
    refine q_load (c := (cd24 [1, 0])) (i := 42) (d := (some 51)) (ty := 9) (t := 9) (x := (.tmp 50)) (p := ⟨b15, p16 + (IntKind.i64.wrap (a0v.at_ + a1)).toNat * 7 + 1, none⟩) (v := .string ((gt a0v.l (IntKind.i64.wrap (a0v.at_ + a1))).Text)) (by kernel_rfl) (by kernel_rfl) (by kernel_rfl) (fun w hC => (loads_at 1 (hc18.cells hC) (by kernel_rfl) (by kernel_rfl))) ?_
    refine q_splitr 2 (is' := [45, 46]) (us := [(52, .string a3)]) (d := 53) (t := (seq ((gt a0v.l (IntKind.i64.wrap (a0v.at_ + a1))).Text) a3)) (by kernel_rfl) (fun h19 => ?_) (fun h20 => ?_)
    ·skip
     have hp21 := ite_t hp14 h19
     refine q_run 2 (is' := []) (us := [(54, .bool true), (8, .bool true)]) (by kernel_rfl) ?_
     refine Qs.nil ?_
     intro w22 hS23
     refine runs_ret (fn := Tryz.f24) (v := .bool true) Tryz.func24 (by kernel_rfl) ?_
     have hr24 := (Option.some.inj hp21)
     cases hr24
     exact hR _ _ ⟨rfl, hS23⟩
    ·skip
     have hp25 := ite_f hp14 h20
     refine q_run 2 (is' := []) (us := [(54, .bool false), (8, .bool false)]) (by kernel_rfl) ?_
     refine Qs.nil ?_
     intro w26 hS27
     refine runs_ret (fn := Tryz.f24) (v := .bool false) Tryz.func24 (by kernel_rfl) ?_
     have hr28 := (Option.some.inj hp25)
     cases hr28
     exact hR _ _ ⟨rfl, hS27⟩
   ·skip
    have hp29 := ite_f hp5 h11
    refine q_run 19 (is' := []) (us := [(37, .bool false), (38, .bool false), (39, undef), (40, undef), (41, undef), (42, undef), (43, undef), (44, undef), (45, undef), (46, undef), (47, undef), (48, undef), (49, undef), (50, undef), (51, undef), (52, undef), (53, undef), (54, .bool false), (8, .bool false)]) (by kernel_rfl) ?_
    refine Qs.nil ?_
    intro w30 hS31
    refine runs_ret (fn := Tryz.f24) (v := .bool false) Tryz.func24 (by kernel_rfl) ?_
    have hr32 := (Option.some.inj hp29)
    cases hr32
    exact hR _ _ ⟨rfl, hS31⟩
  ·skip
   have hp33 := ite_f hp0 h2
   refine q_run 35 (is' := []) (us := [(21, .bool false), (22, undef), (23, undef), (24, undef), (25, undef), (26, undef), (27, undef), (28, undef), (29, undef), (30, undef), (31, undef), (32, undef), (33, undef), (34, undef), (35, undef), (36, undef), (37, .bool false), (38, .bool false), (39, undef), (40, undef), (41, undef), (42, undef), (43, undef), (44, undef), (45, undef), (46, undef), (47, undef), (48, undef), (49, undef), (50, undef), (51, undef), (52, undef), (53, undef), (54, .bool false), (8, .bool false)]) (by kernel_rfl) ?_
   refine Qs.nil ?_
   intro w34 hS35
   refine runs_ret (fn := Tryz.f24) (v := .bool false) Tryz.func24 (by kernel_rfl) ?_
   have hr36 := (Option.some.inj hp33)
   cases hr36
   exact hR _ _ ⟨rfl, hS35⟩

noncomputable def cd25 (p : List Nat) : Code := sub (bodyOf Tryz.f25) p
def cond_reader__take.f (a0v : cond_reader) : Option (api_Token × Int × api_Token) :=
  (if 0 ≤ a0v.at_ ∧ a0v.at_ < (a0v.l.length : Int) then some (((gt a0v.l a0v.at_), (IntKind.i64.wrap (a0v.at_ + 1)), (gt a0v.l a0v.at_))) else none)
set_option maxHeartbeats 16000000 in
theorem cond_reader__take.ok (a0v : cond_reader) (ba0 : Nat) (Aa0v_0 : Option Addr) (ca0v_0 : Nat) (Aa0v_4 : Option Addr) (ca0v_4 : Nat) {w0 : World} {Z : Zm} {fs : List XObj} {w : World} (hS0 : St w0 Z (xblk ba0 44 ([.slice Aa0v_0 a0v.l.length ca0v_0] ++ [.int .i64 a0v.at_] ++ (enc_api_Token a0v.last) ++ [.int .i64 a0v.depth] ++ [.slice Aa0v_4 a0v.c.length ca0v_4]) :: fs) w) (ha0v_0 : SlZ (flat enc_api_Token) 7 Z Aa0v_0 ca0v_0 a0v.l) (ha0v_4 : SlZ (flat enc_api_Node) 6 Z Aa0v_4 ca0v_4 a0v.c) {q0 : api_Token} {q1 : Int} {q2 : api_Token} (hp0 : cond_reader__take.f a0v = some (q0, q1, q2)) :
    Calls Tryz.prog 25 #[.pointer (some ⟨ba0, 0, none⟩)] w (fun e w' => e = .returned (.agg (enc_api_Token q0).toArray) ∧ St w0 Z (xblk ba0 44 ([.slice Aa0v_0 a0v.l.length ca0v_0] ++ [.int .i64 q1] ++ (enc_api_Token q2) ++ [.int .i64 a0v.depth] ++ [.slice Aa0v_4 a0v.c.length ca0v_4]) :: fs) w') := by
  refine calls_abs ?_; intro R hR
  unfold cond_reader__take.f at hp0
  refine calls_of_runs (fn := Tryz.f25) (c := cd25 []) Tryz.func25 (by kernel_rfl) (al := [.pointer (some ⟨ba0, 0, none⟩)]) rfl (n := 26) rfl ?_
  refine sx_run 2 (todo' := [.inRegion (opsOf (cd25 [0])) [0], .code (cd25 [1])]) (us := []) (by kernel_rfl) ?_
  refine r_alloc (c := (cd25 [0])) (i := 0) (d := (some 2)) (ty := 0) (z := .agg (enc_api_Token (⟨0, (⟨#[]⟩ : ByteArray), 0, 0, 0, 0, 0⟩ : api_Token)).toArray) (t := 24) (cs := enc_api_Token (⟨0, (⟨#[]⟩ : ByteArray), 0, 0, 0, 0, 0⟩ : api_Token)) hS0 (by kernel_rfl) (by kernel_rfl) (by kernel_rfl) (by kernel_rfl) ?_
  intro b1 w2 hS3
  refine sx_run 2 (todo' := [.code (cd25 [1, 0]), .code (cd25 [1, 1])]) (us := []) (by kernel_rfl) ?_
  refine r_drawn3 (C := St w0 Z (xblk b1 24 (enc_api_Token (⟨0, (⟨#[]⟩ : ByteArray), 0, 0, 0, 0, 0⟩ : api_Token)) :: xblk ba0 44 ([.slice Aa0v_0 a0v.l.length ca0v_0] ++ [.int .i64 a0v.at_] ++ (enc_api_Token a0v.last) ++ [.int .i64 a0v.depth] ++ [.slice Aa0v_4 a0v.c.length ca0v_4]) :: fs)) (c := (cd25 [1, 0])) (id := 1) (by kernel_rfl) (by kernel_rfl) 13 (Nat.le_of_ble_eq_true (by kernel_rfl)) (by kernel_rfl) (by kernel_rfl) (by kernel_rfl) (is := [0, 1, 2, 3, 4, 5, 6, 7, 8, 9, 10, 11, 12]) (rest := [13]) (by kernel_rfl) (by kernel_rfl) hS3.drew ?_
  refine q_run 4 (is' := [4, 5, 6, 7, 8, 9, 10, 11, 12]) (us := [(3, .pointer (some ⟨ba0, 0, none⟩)), (4, .pointer (some ⟨ba0, 0, none⟩)), (5, .pointer (some ⟨ba0, 0, none⟩)), (6, .pointer (some ⟨ba0, 0, none⟩))]) (by kernel_rfl) ?_
  refine q_load (c := (hd (cd25 [1, 0]) 13)) (i := 4) (d := (some 7)) (ty := 22) (t := 22) (x := (.tmp 6)) (p := ⟨ba0, 0, none⟩) (v := .slice Aa0v_0 a0v.l.length ca0v_0) (by kernel_rfl) (by kernel_rfl) (by kernel_rfl) (fun w hC => (loads_at 0 (hC.blk 1 rfl) (by kernel_rfl) (by kernel_rfl))) ?_
  refine q_run 3 (is' := [8, 9, 10, 11, 12]) (us := [(8, .pointer (some ⟨ba0, 0, none⟩)), (9, .pointer (some ⟨ba0, 0, none⟩)), (10, .pointer (some ⟨ba0, 1, none⟩))]) (by kernel_rfl) ?_
  refine q_load (c := (hd (cd25 [1, 0]) 13)) (i := 8) (d := (some 11)) (ty := 3) (t := 3) (x := (.tmp 10)) (p := ⟨ba0, 1, none⟩) (v := .int .i64 a0v.at_) (by kernel_rfl) (by kernel_rfl) (by kernel_rfl) (fun w hC => (loads_at 1 (hC.blk 1 rfl) (by kernel_rfl) (by kernel_rfl))) ?_
  obtain ⟨g5, hp6⟩ := ite_some hp0
  obtain ⟨b7, p8, hA9, hc10⟩ := ha0v_0.atF g5.1 g5.2
  refine q_indexAddr (c := (hd (cd25 [1, 0]) 13)) (i := 9) (d := (some 12)) (ty := 0) (t := 22) (e := 24) (n := a0v.l.length) (cp := ca0v_0) (sz := 7) (kk := .i64) (x := (.tmp 7)) (y := (.tmp 11)) (b := b7) (o' := p8) (j := a0v.at_) (by kernel_rfl) (by kernel_rfl) (slv (by kernel_rfl) hA9) (by kernel_rfl) (by kernel_rfl) (by kernel_rfl) g5.1 g5.2 ?_
  refine q_load (c := (hd (cd25 [1, 0]) 13)) (i := 10) (d := (some 13)) (ty := 24) (t := 24) (x := (.tmp 12)) (p := ⟨b7, p8 + a0v.at_.toNat * 7, none⟩) (v := .agg (enc_api_Token (gt a0v.l a0v.at_)).toArray) (by kernel_rfl) (by kernel_rfl) (by kernel_rfl) (fun w hC => (loads_agg (hc10.cells hC) (by kernel_rfl) (by kernel_rfl))) ?_
  refine q_run 2 (is' := []) (us := [(14, .pointer (some ⟨ba0, 0, none⟩)), (15, .pointer (some ⟨ba0, 2, none⟩))]) (by kernel_rfl) ?_
  refine Qs.nil ?_
  intro w11 hS12
  have hS13 := hS12.pick1
  refine r_store (c := (cd25 [1, 0])) (i := 13) (d := none) (ty := 0) (t := 24) (x := (.tmp 15)) (y := (.tmp 13)) (b := ba0) (o := 2) (e := 44) (cs := [.slice Aa0v_0 a0v.l.length ca0v_0] ++ [.int .i64 a0v.at_] ++ (enc_api_Token a0v.last) ++ [.int .i64 a0v.depth] ++ [.slice Aa0v_4 a0v.c.length ca0v_4]) (v := .agg (enc_api_Token (gt a0v.l a0v.at_)).toArray) (vs := enc_api_Token (gt a0v.l a0v.at_)) (cs' := [.slice Aa0v_0 a0v.l.length ca0v_0] ++ [.int .i64 a0v.at_] ++ (enc_api_Token (gt a0v.l a0v.at_)) ++ [.int .i64 a0v.depth] ++ [.slice Aa0v_4 a0v.c.length ca0v_4]) hS13 (by kernel_rfl) (by kernel_rfl) (by kernel_rfl) (by kernel_rfl) (by kernel_rfl) (by kernel_rfl) (one_api_Token _) (Nat.le_of_ble_eq_true (by kernel_rfl)) (by kernel_rfl) ?_
  intro w14 hS15
  refine sx_run 6 (todo' := [.inRegion (opsOf (cd25 [1, 1, 0])) [3, 4, 5, 6, 7], .code (cd25 [1, 1, 1])]) (us := [(16, .pointer (some ⟨ba0, 0, none⟩)), (17, .pointer (some ⟨ba0, 0, none⟩)), (18, .pointer (some ⟨ba0, 1, none⟩))]) (by kernel_rfl) ?_
  refine r_load (c := (cd25 [1, 1, 0])) (i := 3) (d := (some 19)) (ty := 3) (t := 3) (x := (.tmp 18)) (p := ⟨ba0, 1, none⟩) (v := .int .i64 a0v.at_) (by kernel_rfl) (by kernel_rfl) (by kernel_rfl) (loads_at 1 (hS15.blk 0 rfl) (by kernel_rfl) (by kernel_rfl)) ?_
  refine sx_run 3 (todo' := [.inRegion (opsOf (cd25 [1, 1, 0])) [7], .code (cd25 [1, 1, 1])]) (us := [(20, .int .i64 (IntKind.i64.wrap (a0v.at_ + 1))), (21, .pointer (some ⟨ba0, 0, none⟩)), (22, .pointer (some ⟨ba0, 1, none⟩))]) (by kernel_rfl) ?_
  refine r_store (c := (cd25 [1, 1, 0])) (i := 7) (d := none) (ty := 0) (t := 3) (x := (.tmp 22)) (y := (.tmp 20)) (b := ba0) (o := 1) (e := 44) (cs := [.slice Aa0v_0 a0v.l.length ca0v_0] ++ [.int .i64 a0v.at_] ++ (enc_api_Token (gt a0v.l a0v.at_)) ++ [.int .i64 a0v.depth] ++ [.slice Aa0v_4 a0v.c.length ca0v_4]) (v := .int .i64 (IntKind.i64.wrap (a0v.at_ + 1))) (vs := [.int .i64 (IntKind.i64.wrap (a0v.at_ + 1))]) (cs' := [.slice Aa0v_0 a0v.l.length ca0v_0] ++ [.int .i64 (IntKind.i64.wrap (a0v.at_ + 1))] ++ (enc_api_Token (gt a0v.l a0v.at_)) ++ [.int .i64 a0v.depth] ++ [.slice Aa0v_4 a0v.c.length ca0v_4]) hS15 (by kernel_rfl) (by kernel_rfl) (by kernel_rfl) (by kernel_rfl) (by kernel_rfl) (by kernel_rfl) (by kernel_rfl) (Nat.le_of_ble_eq_true (by kernel_rfl)) (by kernel_rfl) ?_
  intro w16 hS17
  refine sx_run 6 (todo' := [.inRegion (opsOf (cd25 [1, 1, 1, 0])) [3, 4], .code (cd25 [1, 1, 1, 1])]) (us := [(23, .pointer (some ⟨ba0, 0, none⟩)), (24, .pointer (some ⟨ba0, 0, none⟩)), (25, .pointer (some ⟨ba0, 2, none⟩))]) (by kernel_rfl) ?_
  refine r_load (c := (cd25 [1, 1, 1, 0])) (i := 3) (d := (some 26)) (ty := 24) (t := 24) (x := (.tmp 25)) (p := ⟨ba0, 2, none⟩) (v := .agg (enc_api_Token (gt a0v.l a0v.at_)).toArray) (by kernel_rfl) (by kernel_rfl) (by kernel_rfl) (loads_agg (Cells.mid' (pre := [.slice Aa0v_0 a0v.l.length ca0v_0] ++ [.int .i64 (IntKind.i64.wrap (a0v.at_ + 1))]) (cs := enc_api_Token (gt a0v.l a0v.at_)) (post := [.int .i64 a0v.depth] ++ [.slice Aa0v_4 a0v.c.length ca0v_4]) (off := 2) (hS17.blk 0 rfl) (by simp [len_api_Token]) (by simp)) (by kernel_rfl) (by kernel_rfl)) ?_
  have hS18 := hS17.pick1
  refine r_store (c := (cd25 [1, 1, 1, 0])) (i := 4) (d := none) (ty := 0) (t := 24) (x := (.tmp 2)) (y := (.tmp 26)) (b := b1) (o := 0) (e := 24) (cs := enc_api_Token (⟨0, (⟨#[]⟩ : ByteArray), 0, 0, 0, 0, 0⟩ : api_Token)) (v := .agg (enc_api_Token (gt a0v.l a0v.at_)).toArray) (vs := enc_api_Token (gt a0v.l a0v.at_)) (cs' := enc_api_Token (gt a0v.l a0v.at_)) hS18 (by kernel_rfl) (by kernel_rfl) (by kernel_rfl) (by kernel_rfl) (by kernel_rfl) (by kernel_rfl) (one_api_Token _) (Nat.le_of_ble_eq_true (by kernel_rfl)) (by kernel_rfl) ?_
  intro w19 hS20
  refine sx_run 1 (todo' := [.code (cd25 [1, 1, 1, 1])]) (us := []) (by kernel_rfl) ?_
  have hS21 := hS20.drop
  refine runs_ret (fn := Tryz.f25) (v := .agg (enc_api_Token (gt a0v.l a0v.at_)).toArray) Tryz.func25 (resl_run (fn := Tryz.f25) (by kernel_rfl) (.cell (t := 2) (ty := 24) (by kernel_rfl) (loads_agg (hS20.blk 0 rfl) (by kernel_rfl) (by kernel_rfl)) .nil)) ?_
  have hr22 := (Option.some.inj hp6)
  cases hr22
  exact hR _ _ ⟨rfl, hS21⟩

noncomputable def cd33 (p : List Nat) : Code := sub (bodyOf Tryz.f33) p
def cond_reader__fail.f (a0v : cond_reader) (a1 : api_Token) (a2 : Int) : Option (Sum PErr Unit) :=
  some (.inl (.pos a1.Line a1.Col a2))
set_option maxHeartbeats 16000000 in
theorem cond_reader__fail.ok (a0v : cond_reader) (a1 : api_Token) (a2 : Int) (ba0 : Nat) (Aa0v_0 : Option Addr) (ca0v_0 : Nat) (Aa0v_4 : Option Addr) (ca0v_4 : Nat) {w0 : World} {Z : Zm} {fs : List XObj} {w : World} (hS0 : St w0 Z (xblk ba0 44 ([.slice Aa0v_0 a0v.l.length ca0v_0] ++ [.int .i64 a0v.at_] ++ (enc_api_Token a0v.last) ++ [.int .i64 a0v.depth] ++ [.slice Aa0v_4 a0v.c.length ca0v_4]) :: fs) w) (ha0v_0 : SlZ (flat enc_api_Token) 7 Z Aa0v_0 ca0v_0 a0v.l) (ha0v_4 : SlZ (flat enc_api_Node) 6 Z Aa0v_4 ca0v_4 a0v.c) {qr : Sum PErr Unit} (hp0 : cond_reader__fail.f a0v a1 a2 = some qr) :
    Calls Tryz.prog 33 #[.pointer (some ⟨ba0, 0, none⟩), .agg (enc_api_Token a1).toArray, .int .i64 a2] w (fun e w' => PanQ (fun p => ∃ (v : Value) (Z' : Zm), Zm.Le Z Z' ∧ e = .panicked [{ v := v, recovered := false }] ∧ St w0 Z' fs w' ∧ RepE 39 40 Z' v p) (fun q => False) qr) := by
  refine calls_abs ?_; intro R hR
  unfold cond_reader__fail.f at hp0
  refine calls_of_runs (fn := Tryz.f33) (c := cd33 []) Tryz.func33 (by kernel_rfl) (al := [.pointer (some ⟨ba0, 0, none⟩), .agg (enc_api_Token a1).toArray, .int .i64 a2]) rfl (n := 12) rfl ?_
  refine sx_run 2 (todo' := [.inRegion (opsOf (cd33 [0])) [0], .code (cd33 [1])]) (us := []) (by kernel_rfl) ?_
  refine r_box (c := (cd33 [0])) (i := 0) (d := (some 4)) (ty := 0) (x := (.tmp 1)) (v := .agg (enc_api_Token a1).toArray) (t := 24) (cs := enc_api_Token a1) hS0 (by kernel_rfl) (by kernel_rfl) (by kernel_rfl) (by kernel_rfl) ?_
  intro b1 w2 hS3
  refine sx_run 3 (todo' := [.inRegion (opsOf (cd33 [1])) [1, 2, 3, 4, 5, 6, 7, 8, 9]]) (us := [(6, .pointer (some ⟨b1, 3, none⟩))]) (by kernel_rfl) ?_
  refine r_load (c := (cd33 [1])) (i := 1) (d := (some 7)) (ty := 3) (t := 3) (x := (.tmp 6)) (p := ⟨b1, 3, none⟩) (v := .int .i64 a1.Line) (by kernel_rfl) (by kernel_rfl) (by kernel_rfl) (loads_at 3 (hS3.blk 0 rfl) (by kernel_rfl) (by kernel_rfl)) ?_
  refine sx_run 1 (todo' := [.inRegion (opsOf (cd33 [1])) [3, 4, 5, 6, 7, 8, 9]]) (us := [(8, .pointer (some ⟨b1, 4, none⟩))]) (by kernel_rfl) ?_
  refine r_load (c := (cd33 [1])) (i := 3) (d := (some 9)) (ty := 3) (t := 3) (x := (.tmp 8)) (p := ⟨b1, 4, none⟩) (v := .int .i64 a1.Col) (by kernel_rfl) (by kernel_rfl) (by kernel_rfl) (loads_at 4 (hS3.blk 0 rfl) (by kernel_rfl) (by kernel_rfl)) ?_
  refine sx_run 3 (todo' := [.inRegion (opsOf (cd33 [1])) [7, 8, 9]]) (us := [(10, .int .i64 a2), (11, .iface 39 (.int .i64 a2)), (12, .agg #[.int .i64 a1.Line, .int .i64 a1.Col, .iface 39 (.int .i64 a2)])]) (by kernel_rfl) ?_
  refine r_box (c := (cd33 [1])) (i := 7) (d := (some 13)) (ty := 40) (x := (.tmp 12)) (v := .agg #[.int .i64 a1.Line, .int .i64 a1.Col, .iface 39 (.int .i64 a2)]) (t := 57) (cs := [.int .i64 a1.Line, .int .i64 a1.Col, .iface 39 (.int .i64 a2)]) hS3 (by kernel_rfl) (by kernel_rfl) (by kernel_rfl) (by kernel_rfl) ?_
  intro b5 w6 hS7
  obtain ⟨Z9, hz10, hS11, hs12, -⟩ := hS7.lendblk
  refine sx_run 1 (todo' := [.inRegion (opsOf (cd33 [1])) [9]]) (us := [(14, .iface 40 (.pointer (some ⟨b5, 0, none⟩)))]) (by kernel_rfl) ?_
  refine r_panic (c := (cd33 [1])) (i := 9) (d := none) (ty := 0) (x := (.tmp 14)) (t := 40) (v := .pointer (some ⟨b5, 0, none⟩)) (by kernel_rfl) (by kernel_rfl) (by kernel_rfl) ?_
  have hS14 := hS11.drop
  have hS15 := hS14.drop
  refine raised_fx Tryz.func33 ?_
  have hr16 := (Option.some.inj hp0)
  cases hr16
  exact hR _ _ (panq_l ⟨(.iface 40 (.pointer (some ⟨b5, 0, none⟩))), Z9, hz10, rfl, hS15, (RepE.of_pos hs12)⟩)

noncomputable def cd26 (p : List Nat) : Code := sub (bodyOf Tryz.f26) p
def cond_reader__node.f (a0v : cond_reader) (a1 : api_Node) : Option (Sum PErr (Int × (List api_Node))) :=
  (if ((a0v.c.length : Int) == 1024) = true then (cond_reader__fail.f (⟨a0v.l, a0v.at_, a0v.last, a0v.depth, a0v.c⟩ : cond_reader) a0v.last 1 >>= (fun | .inl pe11 => some (.inl pe11) | .inr _ => none)) else (if (a0v.c.length + ([a1] : List api_Node).length) * 56 ≤ 140737488355328 then some (.inr ((IntKind.i64.wrap (((a0v.c ++ ([a1] : List api_Node)).length : Int) - 1)), (a0v.c ++ ([a1] : List api_Node)))) else none))
set_option maxHeartbeats 16000000 in
theorem cond_reader__node.ok (a0v : cond_reader) (a1 : api_Node) (ba0 : Nat) (Aa0v_0 : Option Addr) (ca0v_0 : Nat) (Aa0v_4 : Option Addr) (ca0v_4 : Nat) {w0 : World} {Z : Zm} {fs : List XObj} {w : World} (hS0 : St w0 Z (xblk ba0 44 ([.slice Aa0v_0 a0v.l.length ca0v_0] ++ [.int .i64 a0v.at_] ++ (enc_api_Token a0v.last) ++ [.int .i64 a0v.depth] ++ [.slice Aa0v_4 a0v.c.length ca0v_4]) :: xrow Aa0v_4 ca0v_4 53 6 (a0v.c.flatMap enc_api_Node) :: fs) w) (ha0v_0 : SlZ (flat enc_api_Token) 7 Z Aa0v_0 ca0v_0 a0v.l) {qr : Sum PErr (Int × (List api_Node))} (hp0 : cond_reader__node.f a0v a1 = some qr) :
    Calls Tryz.prog 26 #[.pointer (some ⟨ba0, 0, none⟩), .agg (enc_api_Node a1).toArray] w (fun e w' => PanQ (fun p => ∃ (v : Value) (Z' : Zm), Zm.Le Z Z' ∧ e = .panicked [{ v := v, recovered := false }] ∧ St w0 Z' fs w' ∧ RepE 39 40 Z' v p) (fun q => ∃ (QA0 : Option Addr) (Qc0 : Nat), e = .returned (.int .i64 q.1) ∧ St w0 Z (xrow QA0 Qc0 53 6 (q.2.flatMap enc_api_Node) :: xblk ba0 44 ([.slice Aa0v_0 a0v.l.length ca0v_0] ++ [.int .i64 a0v.at_] ++ (enc_api_Token a0v.last) ++ [.int .i64 a0v.depth] ++ [.slice QA0 q.2.length Qc0]) :: fs) w') qr) := by
  refine calls_abs ?_; intro R hR
  unfold cond_reader__node.f at hp0
  refine calls_of_runs (fn := Tryz.f26) (c := cd26 []) Tryz.func26 (by kernel_rfl) (al := [.pointer (some ⟨ba0, 0, none⟩), .agg (enc_api_Node a1).toArray]) rfl (n := 31) rfl ?_
  refine sx_run 2 (todo' := [.inRegion (opsOf (cd26 [0])) [0, 1], .code (cd26 [1])]) (us := []) (by kernel_rfl) ?_
  refine r_box (c := (cd26 [0])) (i := 0) (d := (some 3)) (ty := 0) (x := (.tmp 1)) (v := .agg (enc_api_Node a1).toArray) (t := 53) (cs := enc_api_Node a1) hS0 (by kernel_rfl) (by kernel_rfl) (by kernel_rfl) (by kernel_rfl) ?_
  intro b1 w2 hS3
  refine sx_run 8 (todo' := [.inRegion (opsOf (cd26 [1, 0, 0])) [3, 4, 5], .code (cd26 [1, 0, 1]), .code (cd26 [1, 1])]) (us := [(4, .int .i64 0), (5, .pointer (some ⟨ba0, 0, none⟩)), (6, .pointer (some ⟨ba0, 0, none⟩)), (7, .pointer (some ⟨ba0, 10, none⟩))]) (by kernel_rfl) ?_
  refine r_load (c := (cd26 [1, 0, 0])) (i := 3) (d := (some 8)) (ty := 26) (t := 26) (x := (.tmp 7)) (p := ⟨ba0, 10, none⟩) (v := .slice Aa0v_4 a0v.c.length ca0v_4) (by kernel_rfl) (by kernel_rfl) (by kernel_rfl) (loads_at 10 (hS3.blk 1 rfl) (by kernel_rfl) (by kernel_rfl)) ?_
  refine sx_split 2 (todo' := [.inRegion (opsOf (cd26 [1, 0, 0])) [], .code (cd26 [1, 0, 1]), .code (cd26 [1, 1])]) (us := [(9, .int .i64 (a0v.c.length : Int))]) (d := 10) (t := ((a0v.c.length : Int) == 1024)) (by kernel_rfl) (fun h5 => ?_) (fun h6 => ?_)
  ·skip
   have hp7 := ite_t hp0 h5
   refine sx_run 7 (todo' := [.inRegion (opsOf (cd26 [1, 0, 1, 0])) [4, 5], .code (cd26 [1, 1])]) (us := [(11, .pointer (some ⟨ba0, 0, none⟩)), (12, .pointer (some ⟨ba0, 0, none⟩)), (13, .pointer (some ⟨ba0, 0, none⟩)), (14, .pointer (some ⟨ba0, 2, none⟩))]) (by kernel_rfl) ?_
   refine r_load (c := (cd26 [1, 0, 1, 0])) (i := 4) (d := (some 15)) (ty := 24) (t := 24) (x := (.tmp 14)) (p := ⟨ba0, 2, none⟩) (v := .agg (enc_api_Token a0v.last).toArray) (by kernel_rfl) (by kernel_rfl) (by kernel_rfl) (loads_agg (Cells.mid' (pre := [.slice Aa0v_0 a0v.l.length ca0v_0] ++ [.int .i64 a0v.at_]) (cs := enc_api_Token a0v.last) (post := [.int .i64 a0v.depth] ++ [.slice Aa0v_4 a0v.c.length ca0v_4]) (off := 2) (hS3.blk 1 rfl) (by simp [len_api_Token]) (by simp)) (by kernel_rfl) (by kernel_rfl)) ?_
   obtain ⟨q10, hr8, hp9⟩ := bind_some' hp7
   rcases q10 with pe11 | _
   ·skip
    try dsimp only at hp9
    have hS12 := hS3.pick2
    obtain ⟨Z13, hz14, hS15, hs16, hb17⟩ := hS12.lendrow len_api_Node (by omega)
    have hS18 := hS15.pick1
    refine r_callX (c := (cd26 [1, 0, 1, 0])) (i := 5) (d := (some 16)) (g := 33) (args := #[.pointer (some ⟨ba0, 0, none⟩), .agg (enc_api_Token a0v.last).toArray, .int .i64 1]) (by kernel_rfl) (by kernel_rfl) (by kernel_rfl) (by kernel_rfl) (cond_reader__fail.ok (⟨a0v.l, a0v.at_, a0v.last, a0v.depth, a0v.c⟩ : cond_reader) a0v.last 1 ba0 Aa0v_0 ca0v_0 Aa0v_4 ca0v_4 hS18 (ha0v_0.up hz14) hs16 hr8) ?_
    rintro _ w24 ⟨v19, Z20, hz21, rfl, hS22, he23⟩
    refine ⟨_, rfl, ?_⟩
    have hS26 := hS22.drop
    refine raised_fx Tryz.func26 ?_
    have hr27 := (Option.some.inj hp9)
    cases hr27
    exact hR _ _ (panq_l ⟨v19, Z20, (Zm.Le.trans hz14 hz21), rfl, hS26, he23⟩)
   ·skip
    try dsimp only at hp9
    cases hp9
  ·skip
   have hp28 := ite_f hp0 h6
   refine sx_run 4 (todo' := [.code (cd26 [1, 1, 0]), .code (cd26 [1, 1, 1])]) (us := []) (by kernel_rfl) ?_
   obtain ⟨g31, hp32⟩ := ite_some hp28
   refine r_drawnG (S := Option (Nat × Option ((Option Addr × Nat) × Option Unit))) (rank := (fun st => match st with | none => 0 | some (b29, none) => 1 | some (b29, some (x36, none)) => 2 | some (b29, some (x36, some x37)) => 3)) (C := (fun st w' => match st with | none => St w0 Z (xblk b1 53 (enc_api_Node a1) :: xblk ba0 44 ([.slice Aa0v_0 a0v.l.length ca0v_0] ++ [.int .i64 a0v.at_] ++ (enc_api_Token a0v.last) ++ [.int .i64 a0v.depth] ++ [.slice Aa0v_4 a0v.c.length ca0v_4]) :: xrow Aa0v_4 ca0v_4 53 6 (a0v.c.flatMap enc_api_Node) :: fs) w' | some (b29, none) => St w0 Z (xrow (some ⟨b29, 0, none⟩) 1 53 6 (([a1] : List api_Node).flatMap enc_api_Node) :: xblk b1 53 (enc_api_Node a1) :: xblk ba0 44 ([.slice Aa0v_0 a0v.l.length ca0v_0] ++ [.int .i64 a0v.at_] ++ (enc_api_Token a0v.last) ++ [.int .i64 a0v.depth] ++ [.slice Aa0v_4 a0v.c.length ca0v_4]) :: xrow Aa0v_4 ca0v_4 53 6 (a0v.c.flatMap enc_api_Node) :: fs) w' | some (b29, some (x36, none)) => St w0 Z (xrow x36.1 x36.2 53 6 ((a0v.c ++ ([a1] : List api_Node)).flatMap enc_api_Node) :: xrow (some ⟨b29, 0, none⟩) 1 53 6 (([a1] : List api_Node).flatMap enc_api_Node) :: xblk b1 53 (enc_api_Node a1) :: xblk ba0 44 ([.slice Aa0v_0 a0v.l.length ca0v_0] ++ [.int .i64 a0v.at_] ++ (enc_api_Token a0v.last) ++ [.int .i64 a0v.depth] ++ [.slice Aa0v_4 a0v.c.length ca0v_4]) :: fs) w' | some (b29, some (x36, some x37)) => St w0 Z (xblk ba0 44 ([.slice Aa0v_0 a0v.l.length ca0v_0] ++ [.int .i64 a0v.at_] ++ (enc_api_Token a0v.last) ++ [.int .i64 a0v.depth] ++ [.slice x36.1 (a0v.c ++ ([a1] : List api_Node)).length x36.2]) :: xrow x36.1 x36.2 53 6 ((a0v.c ++ ([a1] : List api_Node)).flatMap enc_api_Node) :: xrow (some ⟨b29, 0, none⟩) 1 53 6 (([a1] : List api_Node).flatMap enc_api_Node) :: xblk b1 53 (enc_api_Node a1) :: fs) w')) (v := (fun st => match st with | none => [.pointer (some ⟨ba0, 0, none⟩), .pointer (some ⟨ba0, 0, none⟩), .pointer (some ⟨ba0, 0, none⟩), .pointer (some ⟨ba0, 10, none⟩), .slice Aa0v_4 a0v.c.length ca0v_4, .agg (enc_api_Node a1).toArray, undef, undef, undef, undef, undef] | some (b29, none) => [.pointer (some ⟨ba0, 0, none⟩), .pointer (some ⟨ba0, 0, none⟩), .pointer (some ⟨ba0, 0, none⟩), .pointer (some ⟨ba0, 10, none⟩), .slice Aa0v_4 a0v.c.length ca0v_4, .agg (enc_api_Node a1).toArray, .slice (some ⟨b29, 0, none⟩) ([a1] : List api_Node).length 1, undef, undef, undef, undef] | some (b29, some (x36, none)) => [.pointer (some ⟨ba0, 0, none⟩), .pointer (some ⟨ba0, 0, none⟩), .pointer (some ⟨ba0, 0, none⟩), .pointer (some ⟨ba0, 10, none⟩), .slice Aa0v_4 a0v.c.length ca0v_4, .agg (enc_api_Node a1).toArray, .slice (some ⟨b29, 0, none⟩) ([a1] : List api_Node).length 1, .slice x36.1 (a0v.c ++ ([a1] : List api_Node)).length x36.2, .pointer (some ⟨ba0, 0, none⟩), .pointer (some ⟨ba0, 10, none⟩), undef] | some (b29, some (x36, some x37)) => [.pointer (some ⟨ba0, 0, none⟩), .pointer (some ⟨ba0, 0, none⟩), .pointer (some ⟨ba0, 0, none⟩), .pointer (some ⟨ba0, 10, none⟩), .slice Aa0v_4 a0v.c.length ca0v_4, .agg (enc_api_Node a1).toArray, .slice (some ⟨b29, 0, none⟩) ([a1] : List api_Node).length 1, .slice x36.1 (a0v.c ++ ([a1] : List api_Node)).length x36.2, .pointer (some ⟨ba0, 0, none⟩), .pointer (some ⟨ba0, 10, none⟩), undef])) (c := (cd26 [1, 1, 0])) (id := 3) none 10 11 [6, 7, 10] [0, 0, 0, 0, 0, 0, 0, 1, 2, 2, 2] [2, 2, 2, 2, 1, 0, 1, 2, 3, 2, 3] [] (by kernel_rfl) (by kernel_rfl) (by kernel_rfl) (by kernel_rfl) (by kernel_rfl) (by kernel_rfl) (by kernel_rfl) (by kernel_rfl) (by kernel_rfl) (by kernel_rfl) rfl hS3.drew ?_ ?_ ?_ ?_
   ·intro st w hC
    rcases st with _ | ⟨b29, _ | ⟨x36, _ | x37⟩⟩
    ·exact Nat.le_of_ble_eq_true rfl
    ·exact Nat.le_of_ble_eq_true rfl
    ·exact Nat.le_of_ble_eq_true rfl
    ·exact Nat.le_of_ble_eq_true rfl
   ·intro i hi he st w hC hr hu
    match i, hi, he with
    | 0, _, _ =>
     rcases st with _ | ⟨b29, _ | ⟨x36, _ | x37⟩⟩
     ·replace hC : St w0 Z (xblk b1 53 (enc_api_Node a1) :: xblk ba0 44 ([.slice Aa0v_0 a0v.l.length ca0v_0] ++ [.int .i64 a0v.at_] ++ (enc_api_Token a0v.last) ++ [.int .i64 a0v.depth] ++ [.slice Aa0v_4 a0v.c.length ca0v_4]) :: xrow Aa0v_4 ca0v_4 53 6 (a0v.c.flatMap enc_api_Node) :: fs) w := hC
      exact does_pure (v := .pointer (some ⟨ba0, 0, none⟩)) (by kernel_rfl) rfl hC
     ·replace hC : St w0 Z (xrow (some ⟨b29, 0, none⟩) 1 53 6 (([a1] : List api_Node).flatMap enc_api_Node) :: xblk b1 53 (enc_api_Node a1) :: xblk ba0 44 ([.slice Aa0v_0 a0v.l.length ca0v_0] ++ [.int .i64 a0v.at_] ++ (enc_api_Token a0v.last) ++ [.int .i64 a0v.depth] ++ [.slice Aa0v_4 a0v.c.length ca0v_4]) :: xrow Aa0v_4 ca0v_4 53 6 (a0v.c.flatMap enc_api_Node) :: fs) w := hC
      exact does_pure (v := .pointer (some ⟨ba0, 0, none⟩)) (by kernel_rfl) rfl hC
     ·replace hC : St w0 Z (xrow x36.1 x36.2 53 6 ((a0v.c ++ ([a1] : List api_Node)).flatMap enc_api_Node) :: xrow (some ⟨b29, 0, none⟩) 1 53 6 (([a1] : List api_Node).flatMap enc_api_Node) :: xblk b1 53 (enc_api_Node a1) :: xblk ba0 44 ([.slice Aa0v_0 a0v.l.length ca0v_0] ++ [.int .i64 a0v.at_] ++ (enc_api_Token a0v.last) ++ [.int .i64 a0v.depth] ++ [.slice Aa0v_4 a0v.c.length ca0v_4]) :: fs) w := hC
      exact does_pure (v := .pointer (some ⟨ba0, 0, none⟩)) (by kernel_rfl) rfl hC
     ·exact absurd hu (Nat.not_le_of_gt (Nat.le_of_ble_eq_true rfl))
    | 1, _, _ =>
     rcases st with _ | ⟨b29, _ | ⟨x36, _ | x37⟩⟩
     ·replace hC : St w0 Z (xblk b1 53 (enc_api_Node a1) :: xblk ba0 44 ([.slice Aa0v_0 a0v.l.length ca0v_0] ++ [.int .i64 a0v.at_] ++ (enc_api_Token a0v.last) ++ [.int .i64 a0v.depth] ++ [.slice Aa0v_4 a0v.c.length ca0v_4]) :: xrow Aa0v_4 ca0v_4 53 6 (a0v.c.flatMap enc_api_Node) :: fs) w := hC
      exact does_pure (v := .pointer (some ⟨ba0, 0, none⟩)) (by kernel_rfl) rfl hC
     ·replace hC : St w0 Z (xrow (some ⟨b29, 0, none⟩) 1 53 6 (([a1] : List api_Node).flatMap enc_api_Node) :: xblk b1 53 (enc_api_Node a1) :: xblk ba0 44 ([.slice Aa0v_0 a0v.l.length ca0v_0] ++ [.int .i64 a0v.at_] ++ (enc_api_Token a0v.last) ++ [.int .i64 a0v.depth] ++ [.slice Aa0v_4 a0v.c.length ca0v_4]) :: xrow Aa0v_4 ca0v_4 53 6 (a0v.c.flatMap enc_api_Node) :: fs) w := hC
      exact does_pure (v := .pointer (some ⟨ba0, 0, none⟩)) (by kernel_rfl) rfl hC
     ·replace hC : St w0 Z (xrow x36.1 x36.2 53 6 ((a0v.c ++ ([a1] : List api_Node)).flatMap enc_api_Node) :: xrow (some ⟨b29, 0, none⟩) 1 53 6 (([a1] : List api_Node).flatMap enc_api_Node) :: xblk b1 53 (enc_api_Node a1) :: xblk ba0 44 ([.slice Aa0v_0 a0v.l.length ca0v_0] ++ [.int .i64 a0v.at_] ++ (enc_api_Token a0v.last) ++ [.int .i64 a0v.depth] ++ [.slice Aa0v_4 a0v.c.length ca0v_4]) :: fs) w := hC
      exact does_pure (v := .pointer (some ⟨ba0, 0, none⟩)) (by kernel_rfl) rfl hC
     ·exact absurd hu (Nat.not_le_of_gt (Nat.le_of_ble_eq_true rfl))
    | 2, _, _ =>
     rcases st with _ | ⟨b29, _ | ⟨x36, _ | x37⟩⟩
     ·replace hC : St w0 Z (xblk b1 53 (enc_api_Node a1) :: xblk ba0 44 ([.slice Aa0v_0 a0v.l.length ca0v_0] ++ [.int .i64 a0v.at_] ++ (enc_api_Token a0v.last) ++ [.int .i64 a0v.depth] ++ [.slice Aa0v_4 a0v.c.length ca0v_4]) :: xrow Aa0v_4 ca0v_4 53 6 (a0v.c.flatMap enc_api_Node) :: fs) w := hC
      exact does_pure (v := .pointer (some ⟨ba0, 0, none⟩)) (by kernel_rfl) rfl hC
     ·replace hC : St w0 Z (xrow (some ⟨b29, 0, none⟩) 1 53 6 (([a1] : List api_Node).flatMap enc_api_Node) :: xblk b1 53 (enc_api_Node a1) :: xblk ba0 44 ([.slice Aa0v_0 a0v.l.length ca0v_0] ++ [.int .i64 a0v.at_] ++ (enc_api_Token a0v.last) ++ [.int .i64 a0v.depth] ++ [.slice Aa0v_4 a0v.c.length ca0v_4]) :: xrow Aa0v_4 ca0v_4 53 6 (a0v.c.flatMap enc_api_Node) :: fs) w := hC
      exact does_pure (v := .pointer (some ⟨ba0, 0, none⟩)) (by kernel_rfl) rfl hC
     ·replace hC : St w0 Z (xrow x36.1 x36.2 53 6 ((a0v.c ++ ([a1] : List api_Node)).flatMap enc_api_Node) :: xrow (some ⟨b29, 0, none⟩) 1 53 6 (([a1] : List api_Node).flatMap enc_api_Node) :: xblk b1 53 (enc_api_Node a1) :: xblk ba0 44 ([.slice Aa0v_0 a0v.l.length ca0v_0] ++ [.int .i64 a0v.at_] ++ (enc_api_Token a0v.last) ++ [.int .i64 a0v.depth] ++ [.slice Aa0v_4 a0v.c.length ca0v_4]) :: fs) w := hC
      exact does_pure (v := .pointer (some ⟨ba0, 0, none⟩)) (by kernel_rfl) rfl hC
     ·exact absurd hu (Nat.not_le_of_gt (Nat.le_of_ble_eq_true rfl))
    | 3, _, _ =>
     rcases st with _ | ⟨b29, _ | ⟨x36, _ | x37⟩⟩
     ·replace hC : St w0 Z (xblk b1 53 (enc_api_Node a1) :: xblk ba0 44 ([.slice Aa0v_0 a0v.l.length ca0v_0] ++ [.int .i64 a0v.at_] ++ (enc_api_Token a0v.last) ++ [.int .i64 a0v.depth] ++ [.slice Aa0v_4 a0v.c.length ca0v_4]) :: xrow Aa0v_4 ca0v_4 53 6 (a0v.c.flatMap enc_api_Node) :: fs) w := hC
      exact does_pure (v := .pointer (some ⟨ba0, 10, none⟩)) (by kernel_rfl) rfl hC
     ·replace hC : St w0 Z (xrow (some ⟨b29, 0, none⟩) 1 53 6 (([a1] : List api_Node).flatMap enc_api_Node) :: xblk b1 53 (enc_api_Node a1) :: xblk ba0 44 ([.slice Aa0v_0 a0v.l.length ca0v_0] ++ [.int .i64 a0v.at_] ++ (enc_api_Token a0v.last) ++ [.int .i64 a0v.depth] ++ [.slice Aa0v_4 a0v.c.length ca0v_4]) :: xrow Aa0v_4 ca0v_4 53 6 (a0v.c.flatMap enc_api_Node) :: fs) w := hC
      exact does_pure (v := .pointer (some ⟨ba0, 10, none⟩)) (by kernel_rfl) rfl hC
     ·replace hC : St w0 Z (xrow x36.1 x36.2 53 6 ((a0v.c ++ ([a1] : List api_Node)).flatMap enc_api_Node) :: xrow (some ⟨b29, 0, none⟩) 1 53 6 (([a1] : List api_Node).flatMap enc_api_Node) :: xblk b1 53 (enc_api_Node a1) :: xblk ba0 44 ([.slice Aa0v_0 a0v.l.length ca0v_0] ++ [.int .i64 a0v.at_] ++ (enc_api_Token a0v.last) ++ [.int .i64 a0v.depth] ++ [.slice Aa0v_4 a0v.c.length ca0v_4]) :: fs) w := hC
      exact does_pure (v := .pointer (some ⟨ba0, 10, none⟩)) (by kernel_rfl) rfl hC
     ·exact absurd hu (Nat.not_le_of_gt (Nat.le_of_ble_eq_true rfl))
    | 4, _, _ =>
     rcases st with _ | ⟨b29, _ | ⟨x36, _ | x37⟩⟩
     ·replace hC : St w0 Z (xblk b1 53 (enc_api_Node a1) :: xblk ba0 44 ([.slice Aa0v_0 a0v.l.length ca0v_0] ++ [.int .i64 a0v.at_] ++ (enc_api_Token a0v.last) ++ [.int .i64 a0v.depth] ++ [.slice Aa0v_4 a0v.c.length ca0v_4]) :: xrow Aa0v_4 ca0v_4 53 6 (a0v.c.flatMap enc_api_Node) :: fs) w := hC
      exact does_run (x_load (t := 26) (x := (.tmp 20)) (p := ⟨ba0, 10, none⟩) (v := .slice Aa0v_4 a0v.c.length ca0v_4) (by kernel_rfl) (loads_at 10 (hC.blk 1 rfl) (by kernel_rfl) (by kernel_rfl)) (by kernel_rfl)) rfl hC
     ·replace hC : St w0 Z (xrow (some ⟨b29, 0, none⟩) 1 53 6 (([a1] : List api_Node).flatMap enc_api_Node) :: xblk b1 53 (enc_api_Node a1) :: xblk ba0 44 ([.slice Aa0v_0 a0v.l.length ca0v_0] ++ [.int .i64 a0v.at_] ++ (enc_api_Token a0v.last) ++ [.int .i64 a0v.depth] ++ [.slice Aa0v_4 a0v.c.length ca0v_4]) :: xrow Aa0v_4 ca0v_4 53 6 (a0v.c.flatMap enc_api_Node) :: fs) w := hC
      exact does_run (x_load (t := 26) (x := (.tmp 20)) (p := ⟨ba0, 10, none⟩) (v := .slice Aa0v_4 a0v.c.length ca0v_4) (by kernel_rfl) (loads_at 10 (hC.blk 2 rfl) (by kernel_rfl) (by kernel_rfl)) (by kernel_rfl)) rfl hC
     ·exact absurd hu (Nat.not_le_of_gt (Nat.le_of_ble_eq_true rfl))
     ·exact absurd hu (Nat.not_le_of_gt (Nat.le_of_ble_eq_true rfl))
    | 5, _, _ =>
     rcases st with _ | ⟨b29, _ | ⟨x36, _ | x37⟩⟩
     ·replace hC : St w0 Z (xblk b1 53 (enc_api_Node a1) :: xblk ba0 44 ([.slice Aa0v_0 a0v.l.length ca0v_0] ++ [.int .i64 a0v.at_] ++ (enc_api_Token a0v.last) ++ [.int .i64 a0v.depth] ++ [.slice Aa0v_4 a0v.c.length ca0v_4]) :: xrow Aa0v_4 ca0v_4 53 6 (a0v.c.flatMap enc_api_Node) :: fs) w := hC
      exact does_run (x_load (t := 53) (x := (.tmp 3)) (p := ⟨b1, 0, none⟩) (v := .agg (enc_api_Node a1).toArray) (by kernel_rfl) (loads_agg (hC.blk 0 rfl) (by kernel_rfl) (by kernel_rfl)) (by kernel_rfl)) rfl hC
     ·exact absurd hu (Nat.not_le_of_gt (Nat.le_of_ble_eq_true rfl))
     ·exact absurd hu (Nat.not_le_of_gt (Nat.le_of_ble_eq_true rfl))
     ·exact absurd hu (Nat.not_le_of_gt (Nat.le_of_ble_eq_true rfl))
    | 6, _, he => exact absurd he (by decide)
    | 7, _, he => exact absurd he (by decide)
    | 8, _, _ =>
     rcases st with _ | ⟨b29, _ | ⟨x36, _ | x37⟩⟩
     ·exact absurd hr (Nat.not_le_of_gt (Nat.le_of_ble_eq_true rfl))
     ·exact absurd hr (Nat.not_le_of_gt (Nat.le_of_ble_eq_true rfl))
     ·replace hC : St w0 Z (xrow x36.1 x36.2 53 6 ((a0v.c ++ ([a1] : List api_Node)).flatMap enc_api_Node) :: xrow (some ⟨b29, 0, none⟩) 1 53 6 (([a1] : List api_Node).flatMap enc_api_Node) :: xblk b1 53 (enc_api_Node a1) :: xblk ba0 44 ([.slice Aa0v_0 a0v.l.length ca0v_0] ++ [.int .i64 a0v.at_] ++ (enc_api_Token a0v.last) ++ [.int .i64 a0v.depth] ++ [.slice Aa0v_4 a0v.c.length ca0v_4]) :: fs) w := hC
      exact does_pure (v := .pointer (some ⟨ba0, 0, none⟩)) (by kernel_rfl) rfl hC
     ·replace hC : St w0 Z (xblk ba0 44 ([.slice Aa0v_0 a0v.l.length ca0v_0] ++ [.int .i64 a0v.at_] ++ (enc_api_Token a0v.last) ++ [.int .i64 a0v.depth] ++ [.slice x36.1 (a0v.c ++ ([a1] : List api_Node)).length x36.2]) :: xrow x36.1 x36.2 53 6 ((a0v.c ++ ([a1] : List api_Node)).flatMap enc_api_Node) :: xrow (some ⟨b29, 0, none⟩) 1 53 6 (([a1] : List api_Node).flatMap enc_api_Node) :: xblk b1 53 (enc_api_Node a1) :: fs) w := hC
      exact does_pure (v := .pointer (some ⟨ba0, 0, none⟩)) (by kernel_rfl) rfl hC
    | 9, _, _ =>
     rcases st with _ | ⟨b29, _ | ⟨x36, _ | x37⟩⟩
     ·exact absurd hr (Nat.not_le_of_gt (Nat.le_of_ble_eq_true rfl))
     ·exact absurd hr (Nat.not_le_of_gt (Nat.le_of_ble_eq_true rfl))
     ·replace hC : St w0 Z (xrow x36.1 x36.2 53 6 ((a0v.c ++ ([a1] : List api_Node)).flatMap enc_api_Node) :: xrow (some ⟨b29, 0, none⟩) 1 53 6 (([a1] : List api_Node).flatMap enc_api_Node) :: xblk b1 53 (enc_api_Node a1) :: xblk ba0 44 ([.slice Aa0v_0 a0v.l.length ca0v_0] ++ [.int .i64 a0v.at_] ++ (enc_api_Token a0v.last) ++ [.int .i64 a0v.depth] ++ [.slice Aa0v_4 a0v.c.length ca0v_4]) :: fs) w := hC
      exact does_pure (v := .pointer (some ⟨ba0, 10, none⟩)) (by kernel_rfl) rfl hC
     ·exact absurd hu (Nat.not_le_of_gt (Nat.le_of_ble_eq_true rfl))
    | 10, _, he => exact absurd he (by decide)
    | i + 11, hi, _ => exact absurd hi (by omega)
   ·intro k hk st w hC hr
    match k, hk with
    | 0, _ =>
     rcases st with _ | ⟨b29, _ | ⟨x36, _ | x37⟩⟩
     ·replace hC : St w0 Z (xblk b1 53 (enc_api_Node a1) :: xblk ba0 44 ([.slice Aa0v_0 a0v.l.length ca0v_0] ++ [.int .i64 a0v.at_] ++ (enc_api_Token a0v.last) ++ [.int .i64 a0v.depth] ++ [.slice Aa0v_4 a0v.c.length ca0v_4]) :: xrow Aa0v_4 ca0v_4 53 6 (a0v.c.flatMap enc_api_Node) :: fs) w := hC
      refine does_lit (t := 26) (e := 53) (sz := 6) (n := 1) (parts := #[(0, (.tmp 22))]) (vs := [(0, .agg (enc_api_Node a1).toArray)]) (z := zeroOf Tryz.prog 53) (cs' := ([a1] : List api_Node).flatMap enc_api_Node) hC (by kernel_rfl) (by kernel_rfl) (by kernel_rfl) (by kernel_rfl) (by decide) (by decide) (by kernel_rfl) rfl (Parts.cons (c := enc_api_Node a1) (by kernel_rfl) (len_api_Node _) Parts.nil) rfl ?_
      intro b29 w2 h2
      refine ⟨some (b29, none), rfl, ?_, .inr rfl, h2⟩
      intro j hj
      match j, hj with
      | 0, _ => exact rfl
      | 1, _ => exact rfl
      | 2, _ => exact rfl
      | 3, _ => exact rfl
      | 4, _ => exact rfl
      | 5, _ => exact rfl
      | 6, hj => exact absurd hj (by decide)
      | 7, hj => exact absurd hj (by decide)
      | 8, hj => exact absurd hj (by decide)
      | 9, hj => exact absurd hj (by decide)
      | 10, hj => exact absurd hj (by decide)
      | j + 11, _ => exact rfl
     ·exact absurd hr (Nat.ne_of_beq_eq_false rfl)
     ·exact absurd hr (Nat.ne_of_beq_eq_false rfl)
     ·exact absurd hr (Nat.ne_of_beq_eq_false rfl)
    | 1, _ =>
     rcases st with _ | ⟨b29, _ | ⟨x36, _ | x37⟩⟩
     ·exact absurd hr (Nat.ne_of_beq_eq_false rfl)
     ·replace hC : St w0 Z (xrow (some ⟨b29, 0, none⟩) 1 53 6 (([a1] : List api_Node).flatMap enc_api_Node) :: xblk b1 53 (enc_api_Node a1) :: xblk ba0 44 ([.slice Aa0v_0 a0v.l.length ca0v_0] ++ [.int .i64 a0v.at_] ++ (enc_api_Token a0v.last) ++ [.int .i64 a0v.depth] ++ [.slice Aa0v_4 a0v.c.length ca0v_4]) :: xrow Aa0v_4 ca0v_4 53 6 (a0v.c.flatMap enc_api_Node) :: fs) w := hC
      have hC := hC.pick3
      refine does_append (enc := enc_api_Node) (e := 53) (u := 53) (t := 26) (t2 := 26) (sz := 6) (cp := ca0v_4) (A := Aa0v_4) (bytes := 56) (xs := a0v.c) (ys := ([a1] : List api_Node)) (s := (.tmp 21)) (x := (.tmp 23)) (xv := .slice (some ⟨b29, 0, none⟩) ([a1] : List api_Node).length 1) (info := infoOf Tryz.prog 53) (z := zeroOf Tryz.prog 53) (ycs := ([a1] : List api_Node).flatMap enc_api_Node) hC (by kernel_rfl) (by kernel_rfl) (by kernel_rfl) (by kernel_rfl) (.inl (by kernel_rfl)) (by kernel_rfl) (by kernel_rfl) (by kernel_rfl) (by kernel_rfl) (by kernel_rfl) (by omega) len_api_Node one_api_Node (src_row (hC.row 1 rfl) (by omega) len_api_Node) rfl g31 (by omega) ?_
      intro A33 c34 w2 h2
      refine ⟨some (b29, some ((A33, c34), none)), rfl, ?_, .inr rfl, h2⟩
      intro j hj
      match j, hj with
      | 0, _ => exact rfl
      | 1, _ => exact rfl
      | 2, _ => exact rfl
      | 3, _ => exact rfl
      | 4, _ => exact rfl
      | 5, _ => exact rfl
      | 6, _ => exact rfl
      | 7, hj => exact absurd hj (by decide)
      | 8, hj => exact absurd hj (by decide)
      | 9, hj => exact absurd hj (by decide)
      | 10, hj => exact absurd hj (by decide)
      | j + 11, _ => exact rfl
     ·exact absurd hr (Nat.ne_of_beq_eq_false rfl)
     ·exact absurd hr (Nat.ne_of_beq_eq_false rfl)
    | 2, _ =>
     rcases st with _ | ⟨b29, _ | ⟨x36, _ | x37⟩⟩
     ·exact absurd hr (Nat.ne_of_beq_eq_false rfl)
     ·exact absurd hr (Nat.ne_of_beq_eq_false rfl)
     ·replace hC : St w0 Z (xrow x36.1 x36.2 53 6 ((a0v.c ++ ([a1] : List api_Node)).flatMap enc_api_Node) :: xrow (some ⟨b29, 0, none⟩) 1 53 6 (([a1] : List api_Node).flatMap enc_api_Node) :: xblk b1 53 (enc_api_Node a1) :: xblk ba0 44 ([.slice Aa0v_0 a0v.l.length ca0v_0] ++ [.int .i64 a0v.at_] ++ (enc_api_Token a0v.last) ++ [.int .i64 a0v.depth] ++ [.slice Aa0v_4 a0v.c.length ca0v_4]) :: fs) w := hC
      have hC := hC.pick3
      refine does_storeG (t := 26) (x := (.tmp 26)) (y := (.tmp 24)) (b := ba0) (o := 10) (e := 44) (cs := [.slice Aa0v_0 a0v.l.length ca0v_0] ++ [.int .i64 a0v.at_] ++ (enc_api_Token a0v.last) ++ [.int .i64 a0v.depth] ++ [.slice Aa0v_4 a0v.c.length ca0v_4]) (v := .slice x36.1 (a0v.c ++ ([a1] : List api_Node)).length x36.2) (vs := [.slice x36.1 (a0v.c ++ ([a1] : List api_Node)).length x36.2]) (cs' := [.slice Aa0v_0 a0v.l.length ca0v_0] ++ [.int .i64 a0v.at_] ++ (enc_api_Token a0v.last) ++ [.int .i64 a0v.depth] ++ [.slice x36.1 (a0v.c ++ ([a1] : List api_Node)).length x36.2]) hC (by kernel_rfl) (by kernel_rfl) (by kernel_rfl) (by kernel_rfl) (by kernel_rfl) (by kernel_rfl) (by kernel_rfl) (Nat.le_of_ble_eq_true (by kernel_rfl)) (by kernel_rfl) ?_
      intro w2 h2
      refine ⟨some (b29, some (x36, some ())), rfl, ?_, .inl rfl, h2⟩
      intro j hj
      match j, hj with
      | 0, _ => exact rfl
      | 1, _ => exact rfl
      | 2, _ => exact rfl
      | 3, _ => exact rfl
      | 4, _ => exact rfl
      | 5, _ => exact rfl
      | 6, _ => exact rfl
      | 7, _ => exact rfl
      | 8, _ => exact rfl
      | 9, _ => exact rfl
      | 10, hj => exact absurd hj (by decide)
      | j + 11, _ => exact rfl
     ·exact absurd hr (Nat.ne_of_beq_eq_false rfl)
    | k + 3, hk => exact absurd hk (by simp)
   intro st41 w38 hS39 hr40
   rcases st41 with _ | ⟨b29, _ | ⟨x36, _ | x37⟩⟩
   ·exact absurd hr40 (Nat.not_le_of_gt (Nat.le_of_ble_eq_true rfl))
   ·exact absurd hr40 (Nat.not_le_of_gt (Nat.le_of_ble_eq_true rfl))
   ·exact absurd hr40 (Nat.not_le_of_gt (Nat.le_of_ble_eq_true rfl))
   replace hS39 : St w0 Z (xblk ba0 44 ([.slice Aa0v_0 a0v.l.length ca0v_0] ++ [.int .i64 a0v.at_] ++ (enc_api_Token a0v.last) ++ [.int .i64 a0v.depth] ++ [.slice x36.1 (a0v.c ++ ([a1] : List api_Node)).length x36.2]) :: xrow x36.1 x36.2 53 6 ((a0v.c ++ ([a1] : List api_Node)).flatMap enc_api_Node) :: xrow (some ⟨b29, 0, none⟩) 1 53 6 (([a1] : List api_Node).flatMap enc_api_Node) :: xblk b1 53 (enc_api_Node a1) :: fs) w38 := hS39
   refine sx_run 5 (todo' := [.inRegion (opsOf (cd26 [1, 1, 1, 0])) [3, 4, 5, 6], .code (cd26 [1, 1, 1, 1])]) (us := [(27, .pointer (some ⟨ba0, 0, none⟩)), (28, .pointer (some ⟨ba0, 0, none⟩)), (29, .pointer (some ⟨ba0, 10, none⟩))]) (by kernel_rfl) ?_
   refine r_load (c := (cd26 [1, 1, 1, 0])) (i := 3) (d := (some 30)) (ty := 26) (t := 26) (x := (.tmp 29)) (p := ⟨ba0, 10, none⟩) (v := .slice x36.1 (a0v.c ++ ([a1] : List api_Node)).length x36.2) (by kernel_rfl) (by kernel_rfl) (by kernel_rfl) (loads_at 10 (hS39.blk 0 rfl) (by kernel_rfl) (by kernel_rfl)) ?_
   refine sx_run 4 (todo' := [.code (cd26 [1, 1, 1, 1])]) (us := [(31, .int .i64 ((a0v.c ++ ([a1] : List api_Node)).length : Int)), (32, .int .i64 (IntKind.i64.wrap (((a0v.c ++ ([a1] : List api_Node)).length : Int) - 1))), (4, .int .i64 (IntKind.i64.wrap (((a0v.c ++ ([a1] : List api_Node)).length : Int) - 1)))]) (by kernel_rfl) ?_
   have hS42 := hS39.pick2
   have hS43 := hS42.drop
   have hS44 := hS43.pick2
   have hS45 := hS44.drop
   have hS46 := hS45.pick1
   refine runs_ret (fn := Tryz.f26) (v := .int .i64 (IntKind.i64.wrap (((a0v.c ++ ([a1] : List api_Node)).length : Int) - 1))) Tryz.func26 (by kernel_rfl) ?_
   have hr47 := (Option.some.inj hp32)
   cases hr47
   exact hR _ _ (panq_r ⟨x36.1, x36.2, rfl, hS46⟩)

noncomputable def cd34 (p : List Nat) : Code := sub (bodyOf Tryz.f34) p
def cond_reader__opens.f (a0v : cond_reader) : Option (Sum PErr (Int × api_Token × Int)) :=
  (if (a0v.depth == 64) = true then (if 0 ≤ a0v.at_ ∧ a0v.at_ < (a0v.l.length : Int) then (cond_reader__fail.f (⟨a0v.l, a0v.at_, a0v.last, a0v.depth, a0v.c⟩ : cond_reader) (gt a0v.l a0v.at_) 2 >>= (fun | .inl pe15 => some (.inl pe15) | .inr _ => none)) else none) else (cond_reader__take.f (⟨a0v.l, a0v.at_, a0v.last, (IntKind.i64.wrap (a0v.depth + 1)), a0v.c⟩ : cond_reader) >>= (fun (t27, t28, t29) => some (.inr (t28, t29, (IntKind.i64.wrap (a0v.depth + 1)))))))
set_option maxHeartbeats 16000000 in
theorem cond_reader__opens.ok (a0v : cond_reader) (ba0 : Nat) (Aa0v_0 : Option Addr) (ca0v_0 : Nat) (Aa0v_4 : Option Addr) (ca0v_4 : Nat) {w0 : World} {Z : Zm} {fs : List XObj} {w : World} (hS0 : St w0 Z (xblk ba0 44 ([.slice Aa0v_0 a0v.l.length ca0v_0] ++ [.int .i64 a0v.at_] ++ (enc_api_Token a0v.last) ++ [.int .i64 a0v.depth] ++ [.slice Aa0v_4 a0v.c.length ca0v_4]) :: fs) w) (ha0v_0 : SlZ (flat enc_api_Token) 7 Z Aa0v_0 ca0v_0 a0v.l) (ha0v_4 : SlZ (flat enc_api_Node) 6 Z Aa0v_4 ca0v_4 a0v.c) {qr : Sum PErr (Int × api_Token × Int)} (hp0 : cond_reader__opens.f a0v = some qr) :
    Calls Tryz.prog 34 #[.pointer (some ⟨ba0, 0, none⟩)] w (fun e w' => PanQ (fun p => ∃ (v : Value) (Z' : Zm), Zm.Le Z Z' ∧ e = .panicked [{ v := v, recovered := false }] ∧ St w0 Z' fs w' ∧ RepE 39 40 Z' v p) (fun q => e = .returned (.tuple #[]) ∧ St w0 Z (xblk ba0 44 ([.slice Aa0v_0 a0v.l.length ca0v_0] ++ [.int .i64 q.1] ++ (enc_api_Token q.2.1) ++ [.int .i64 q.2.2] ++ [.slice Aa0v_4 a0v.c.length ca0v_4]) :: fs) w') qr) := by
  refine calls_abs ?_; intro R hR
  unfold cond_reader__opens.f at hp0
  refine calls_of_runs (fn := Tryz.f34) (c := cd34 []) Tryz.func34 (by kernel_rfl) (al := [.pointer (some ⟨ba0, 0, none⟩)]) rfl (n := 27) rfl ?_
  refine sx_run 6 (todo' := [.inRegion (opsOf (cd34 [0, 0])) [3, 4], .code (cd34 [0, 1]), .code (cd34 [1])]) (us := [(2, .pointer (some ⟨ba0, 0, none⟩)), (3, .pointer (some ⟨ba0, 0, none⟩)), (4, .pointer (some ⟨ba0, 9, none⟩))]) (by kernel_rfl) ?_
  refine r_load (c := (cd34 [0, 0])) (i := 3) (d := (some 5)) (ty := 3) (t := 3) (x := (.tmp 4)) (p := ⟨ba0, 9, none⟩) (v := .int .i64 a0v.depth) (by kernel_rfl) (by kernel_rfl) (by kernel_rfl) (loads_at 9 (hS0.blk 0 rfl) (by kernel_rfl) (by kernel_rfl)) ?_
  refine sx_split 1 (todo' := [.inRegion (opsOf (cd34 [0, 0])) [], .code (cd34 [0, 1]), .code (cd34 [1])]) (us := []) (d := 6) (t := (a0v.depth == 64)) (by kernel_rfl) (fun h1 => ?_) (fun h2 => ?_)
  ·skip
   have hp3 := ite_t hp0 h1
   refine sx_run 2 (todo' := [.code (cd34 [0, 1, 0]), .code (cd34 [1])]) (us := []) (by kernel_rfl) ?_
   refine r_drawn3 (C := St w0 Z (xblk ba0 44 ([.slice Aa0v_0 a0v.l.length ca0v_0] ++ [.int .i64 a0v.at_] ++ (enc_api_Token a0v.last) ++ [.int .i64 a0v.depth] ++ [.slice Aa0v_4 a0v.c.length ca0v_4]) :: fs)) (c := (cd34 [0, 1, 0])) (id := 1) (by kernel_rfl) (by kernel_rfl) 11 (Nat.le_of_ble_eq_true (by kernel_rfl)) (by kernel_rfl) (by kernel_rfl) (by kernel_rfl) (is := [0, 1, 2, 3, 4, 5, 6, 7, 8, 9, 10]) (rest := [11]) (by kernel_rfl) (by kernel_rfl) hS0.drew ?_
   refine q_run 4 (is' := [4, 5, 6, 7, 8, 9, 10]) (us := [(7, .pointer (some ⟨ba0, 0, none⟩)), (8, .pointer (some ⟨ba0, 0, none⟩)), (9, .pointer (some ⟨ba0, 0, none⟩)), (10, .pointer (some ⟨ba0, 0, none⟩))]) (by kernel_rfl) ?_
   refine q_load (c := (hd (cd34 [0, 1, 0]) 11)) (i := 4) (d := (some 11)) (ty := 22) (t := 22) (x := (.tmp 10)) (p := ⟨ba0, 0, none⟩) (v := .slice Aa0v_0 a0v.l.length ca0v_0) (by kernel_rfl) (by kernel_rfl) (by kernel_rfl) (fun w hC => (loads_at 0 (hC.blk 0 rfl) (by kernel_rfl) (by kernel_rfl))) ?_
   refine q_run 3 (is' := [8, 9, 10]) (us := [(12, .pointer (some ⟨ba0, 0, none⟩)), (13, .pointer (some ⟨ba0, 0, none⟩)), (14, .pointer (some ⟨ba0, 1, none⟩))]) (by kernel_rfl) ?_
   refine q_load (c := (hd (cd34 [0, 1, 0]) 11)) (i := 8) (d := (some 15)) (ty := 3) (t := 3) (x := (.tmp 14)) (p := ⟨ba0, 1, none⟩) (v := .int .i64 a0v.at_) (by kernel_rfl) (by kernel_rfl) (by kernel_rfl) (fun w hC => (loads_at 1 (hC.blk 0 rfl) (by kernel_rfl) (by kernel_rfl))) ?_
   obtain ⟨g4, hp5⟩ := ite_some hp3
   obtain ⟨b6, p7, hA8, hc9⟩ := ha0v_0.atF g4.1 g4.2
   refine q_indexAddr (c := (hd (cd34 [0, 1, 0]) 11)) (i := 9) (d := (some 16)) (ty := 0) (t := 22) (e := 24) (n := a0v.l.length) (cp := ca0v_0) (sz := 7) (kk := .i64) (x := (.tmp 11)) (y := (.tmp 15)) (b := b6) (o' := p7) (j := a0v.at_) (by kernel_rfl) (by kernel_rfl) (slv (by kernel_rfl) hA8) (by kernel_rfl) (by kernel_rfl) (by kernel_rfl) g4.1 g4.2 ?_
   refine q_load (c := (hd (cd34 [0, 1, 0]) 11)) (i := 10) (d := (some 17)) (ty := 24) (t := 24) (x := (.tmp 16)) (p := ⟨b6, p7 + a0v.at_.toNat * 7, none⟩) (v := .agg (enc_api_Token (gt a0v.l a0v.at_)).toArray) (by kernel_rfl) (by kernel_rfl) (by kernel_rfl) (fun w hC => (loads_agg (hc9.cells hC) (by kernel_rfl) (by kernel_rfl))) ?_
   refine Qs.nil ?_
   intro w10 hS11
   obtain ⟨q14, hr12, hp13⟩ := bind_some' hp5
   rcases q14 with pe15 | _
   ·skip
    try dsimp only at hp13
    refine r_callX (c := (cd34 [0, 1, 0])) (i := 11) (d := (some 18)) (g := 33) (args := #[.pointer (some ⟨ba0, 0, none⟩), .agg (enc_api_Token (gt a0v.l a0v.at_)).toArray, .int .i64 2]) (by kernel_rfl) (by kernel_rfl) (by kernel_rfl) (by kernel_rfl) (cond_reader__fail.ok (⟨a0v.l, a0v.at_, a0v.last, a0v.depth, a0v.c⟩ : cond_reader) (gt a0v.l a0v.at_) 2 ba0 Aa0v_0 ca0v_0 Aa0v_4 ca0v_4 hS11 ha0v_0 ha0v_4 hr12) ?_
    rintro _ w21 ⟨v16, Z17, hz18, rfl, hS19, he20⟩
    refine ⟨_, rfl, ?_⟩
    refine raised_fx Tryz.func34 ?_
    have hr23 := (Option.some.inj hp13)
    cases hr23
    exact hR _ _ (panq_l ⟨v16, Z17, hz18, rfl, hS19, he20⟩)
   ·skip
    try dsimp only at hp13
    cases hp13
  ·skip
   have hp24 := ite_f hp0 h2
   refine sx_run 8 (todo' := [.inRegion (opsOf (cd34 [1, 0])) [3, 4, 5, 6, 7], .code (cd34 [1, 1])]) (us := [(19, .pointer (some ⟨ba0, 0, none⟩)), (20, .pointer (some ⟨ba0, 0, none⟩)), (21, .pointer (some ⟨ba0, 9, none⟩))]) (by kernel_rfl) ?_
   refine r_load (c := (cd34 [1, 0])) (i := 3) (d := (some 22)) (ty := 3) (t := 3) (x := (.tmp 21)) (p := ⟨ba0, 9, none⟩) (v := .int .i64 a0v.depth) (by kernel_rfl) (by kernel_rfl) (by kernel_rfl) (loads_at 9 (hS0.blk 0 rfl) (by kernel_rfl) (by kernel_rfl)) ?_
   refine sx_run 3 (todo' := [.inRegion (opsOf (cd34 [1, 0])) [7], .code (cd34 [1, 1])]) (us := [(23, .int .i64 (IntKind.i64.wrap (a0v.depth + 1))), (24, .pointer (some ⟨ba0, 0, none⟩)), (25, .pointer (some ⟨ba0, 9, none⟩))]) (by kernel_rfl) ?_
   refine r_store (c := (cd34 [1, 0])) (i := 7) (d := none) (ty := 0) (t := 3) (x := (.tmp 25)) (y := (.tmp 23)) (b := ba0) (o := 9) (e := 44) (cs := [.slice Aa0v_0 a0v.l.length ca0v_0] ++ [.int .i64 a0v.at_] ++ (enc_api_Token a0v.last) ++ [.int .i64 a0v.depth] ++ [.slice Aa0v_4 a0v.c.length ca0v_4]) (v := .int .i64 (IntKind.i64.wrap (a0v.depth + 1))) (vs := [.int .i64 (IntKind.i64.wrap (a0v.depth + 1))]) (cs' := [.slice Aa0v_0 a0v.l.length ca0v_0] ++ [.int .i64 a0v.at_] ++ (enc_api_Token a0v.last) ++ [.int .i64 (IntKind.i64.wrap (a0v.depth + 1))] ++ [.slice Aa0v_4 a0v.c.length ca0v_4]) hS0 (by kernel_rfl) (by kernel_rfl) (by kernel_rfl) (by kernel_rfl) (by kernel_rfl) (by kernel_rfl) (by kernel_rfl) (Nat.le_of_ble_eq_true (by kernel_rfl)) (by kernel_rfl) ?_
   intro w25 hS26
   refine sx_run 3 (todo' := [.inRegion (opsOf (cd34 [1, 1])) [1]]) (us := [(26, .pointer (some ⟨ba0, 0, none⟩))]) (by kernel_rfl) ?_
   obtain ⟨⟨t27, t28, t29⟩, hr30, hp31⟩ := bind_some' hp24
   try dsimp only at hp31
   refine r_call1 (c := (cd34 [1, 1])) (i := 1) (d := (some 27)) (g := 25) (args := #[.pointer (some ⟨ba0, 0, none⟩)]) (by kernel_rfl) (by kernel_rfl) (by kernel_rfl) (by kernel_rfl) (cond_reader__take.ok (⟨a0v.l, a0v.at_, a0v.last, (IntKind.i64.wrap (a0v.depth + 1)), a0v.c⟩ : cond_reader) ba0 Aa0v_0 ca0v_0 Aa0v_4 ca0v_4 hS26 ha0v_0 ha0v_4 hr30) ?_
   rintro _ w32 ⟨rfl, hS33⟩
   refine ⟨.agg (enc_api_Token t27).toArray, rfl, ?_⟩
   refine sx_run 1 (todo' := []) (us := []) (by kernel_rfl) ?_
   refine runs_end (fn := Tryz.f34) (v := .tuple #[]) Tryz.func34 (by kernel_rfl) ?_
   have hr34 := (Option.some.inj hp31)
   cases hr34
   exact hR _ _ (panq_r ⟨rfl, hS33⟩)

noncomputable def cd42 (p : List Nat) : Code := sub (bodyOf Tryz.f42) p
def cond_reader__next.f (a0v : cond_reader) : Option (api_Token × Bool) :=
  (if (decide (a0v.at_ < (a0v.l.length : Int))) = true then (if 0 ≤ a0v.at_ ∧ a0v.at_ < (a0v.l.length : Int) then some (((gt a0v.l a0v.at_), true)) else none) else some (((⟨0, (⟨#[]⟩ : ByteArray), 0, 0, 0, 0, 0⟩ : api_Token), false)))
set_option maxHeartbeats 16000000 in
theorem cond_reader__next.ok (a0v : cond_reader) (ba0 : Nat) (Aa0v_0 : Option Addr) (ca0v_0 : Nat) (Aa0v_4 : Option Addr) (ca0v_4 : Nat) {w0 : World} {Z : Zm} {fs : List XObj} {w : World} (hS0 : St w0 Z (xblk ba0 44 ([.slice Aa0v_0 a0v.l.length ca0v_0] ++ [.int .i64 a0v.at_] ++ (enc_api_Token a0v.last) ++ [.int .i64 a0v.depth] ++ [.slice Aa0v_4 a0v.c.length ca0v_4]) :: fs) w) (ha0v_0 : SlZ (flat enc_api_Token) 7 Z Aa0v_0 ca0v_0 a0v.l) (ha0v_4 : SlZ (flat enc_api_Node) 6 Z Aa0v_4 ca0v_4 a0v.c) {q0 : api_Token} {q1 : Bool} (hp0 : cond_reader__next.f a0v = some (q0, q1)) :
    Calls Tryz.prog 42 #[.pointer (some ⟨ba0, 0, none⟩)] w (fun e w' => e = .returned (.tuple #[.agg (enc_api_Token q0).toArray, .bool q1]) ∧ St w0 Z (xblk ba0 44 ([.slice Aa0v_0 a0v.l.length ca0v_0] ++ [.int .i64 a0v.at_] ++ (enc_api_Token a0v.last) ++ [.int .i64 a0v.depth] ++ [.slice Aa0v_4 a0v.c.length ca0v_4]) :: fs) w') := by
  refine calls_abs ?_; intro R hR
  unfold cond_reader__next.f at hp0
  refine calls_of_runs (fn := Tryz.f42) (c := cd42 []) Tryz.func42 (by kernel_rfl) (al := [.pointer (some ⟨ba0, 0, none⟩)]) rfl (n := 24) rfl ?_
  refine sx_run 2 (todo' := [.inRegion (opsOf (cd42 [0])) [0, 1], .code (cd42 [1])]) (us := []) (by kernel_rfl) ?_
  refine r_alloc (c := (cd42 [0])) (i := 0) (d := (some 2)) (ty := 0) (z := .agg (enc_api_Token (⟨0, (⟨#[]⟩ : ByteArray), 0, 0, 0, 0, 0⟩ : api_Token)).toArray) (t := 24) (cs := enc_api_Token (⟨0, (⟨#[]⟩ : ByteArray), 0, 0, 0, 0, 0⟩ : api_Token)) hS0 (by kernel_rfl) (by kernel_rfl) (by kernel_rfl) (by kernel_rfl) ?_
  intro b1 w2 hS3
  refine sx_run 4 (todo' := [.code (cd42 [1, 0, 0]), .code (cd42 [1, 0, 1]), .code (cd42 [1, 1])]) (us := [(3, .bool false)]) (by kernel_rfl) ?_
  refine r_quiet hS3 (c := (cd42 [1, 0, 0])) (id := 1) (by kernel_rfl) (by kernel_rfl) (by kernel_rfl) (is := [0, 1, 2, 3, 4, 5, 6, 7, 8, 9]) (by kernel_rfl) ?_
  refine q_run 3 (is' := [3, 4, 5, 6, 7, 8, 9]) (us := [(4, .pointer (some ⟨ba0, 0, none⟩)), (5, .pointer (some ⟨ba0, 0, none⟩)), (6, .pointer (some ⟨ba0, 1, none⟩))]) (by kernel_rfl) ?_
  refine q_load (c := (cd42 [1, 0, 0])) (i := 3) (d := (some 7)) (ty := 3) (t := 3) (x := (.tmp 6)) (p := ⟨ba0, 1, none⟩) (v := .int .i64 a0v.at_) (by kernel_rfl) (by kernel_rfl) (by kernel_rfl) (fun w hC => (loads_at 1 (hC.blk 1 rfl) (by kernel_rfl) (by kernel_rfl))) ?_
  refine q_run 3 (is' := [7, 8, 9]) (us := [(8, .pointer (some ⟨ba0, 0, none⟩)), (9, .pointer (some ⟨ba0, 0, none⟩)), (10, .pointer (some ⟨ba0, 0, none⟩))]) (by kernel_rfl) ?_
  refine q_load (c := (cd42 [1, 0, 0])) (i := 7) (d := (some 11)) (ty := 22) (t := 22) (x := (.tmp 10)) (p := ⟨ba0, 0, none⟩) (v := .slice Aa0v_0 a0v.l.length ca0v_0) (by kernel_rfl) (by kernel_rfl) (by kernel_rfl) (fun w hC => (loads_at 0 (hC.blk 1 rfl) (by kernel_rfl) (by kernel_rfl))) ?_
  refine q_splitr 2 (is' := []) (us := [(12, .int .i64 (a0v.l.length : Int))]) (d := 13) (t := (decide (a0v.at_ < (a0v.l.length : Int)))) (by kernel_rfl) (fun h5 => ?_) (fun h6 => ?_)
  ·skip
   have hp7 := ite_t hp0 h5
   refine Qs.nil ?_
   intro w8 hS9
   refine sx_run 2 (todo' := [.code (cd42 [1, 0, 1, 0, 0]), .code (cd42 [1, 0, 1, 0, 1]), .code (cd42 [1, 1])]) (us := []) (by kernel_rfl) ?_
   refine r_drawn3 (C := St w0 Z (xblk b1 24 (enc_api_Token (⟨0, (⟨#[]⟩ : ByteArray), 0, 0, 0, 0, 0⟩ : api_Token)) :: xblk ba0 44 ([.slice Aa0v_0 a0v.l.length ca0v_0] ++ [.int .i64 a0v.at_] ++ (enc_api_Token a0v.last) ++ [.int .i64 a0v.depth] ++ [.slice Aa0v_4 a0v.c.length ca0v_4]) :: fs)) (c := (cd42 [1, 0, 1, 0, 0])) (id := 2) (by kernel_rfl) (by kernel_rfl) 10 (Nat.le_of_ble_eq_true (by kernel_rfl)) (by kernel_rfl) (by kernel_rfl) (by kernel_rfl) (is := [0, 1, 2, 3, 4, 5, 6, 7, 8, 9]) (rest := [10, 11]) (by kernel_rfl) (by kernel_rfl) hS9.drew ?_
   refine q_run 3 (is' := [3, 4, 5, 6, 7, 8, 9]) (us := [(14, .pointer (some ⟨ba0, 0, none⟩)), (15, .pointer (some ⟨ba0, 0, none⟩)), (16, .pointer (some ⟨ba0, 0, none⟩))]) (by kernel_rfl) ?_
   refine q_load (c := (hd (cd42 [1, 0, 1, 0, 0]) 10)) (i := 3) (d := (some 17)) (ty := 22) (t := 22) (x := (.tmp 16)) (p := ⟨ba0, 0, none⟩) (v := .slice Aa0v_0 a0v.l.length ca0v_0) (by kernel_rfl) (by kernel_rfl) (by kernel_rfl) (fun w hC => (loads_at 0 (hC.blk 1 rfl) (by kernel_rfl) (by kernel_rfl))) ?_
   refine q_run 3 (is' := [7, 8, 9]) (us := [(18, .pointer (some ⟨ba0, 0, none⟩)), (19, .pointer (some ⟨ba0, 0, none⟩)), (20, .pointer (some ⟨ba0, 1, none⟩))]) (by kernel_rfl) ?_
   refine q_load (c := (hd (cd42 [1, 0, 1, 0, 0]) 10)) (i := 7) (d := (some 21)) (ty := 3) (t := 3) (x := (.tmp 20)) (p := ⟨ba0, 1, none⟩) (v := .int .i64 a0v.at_) (by kernel_rfl) (by kernel_rfl) (by kernel_rfl) (fun w hC => (loads_at 1 (hC.blk 1 rfl) (by kernel_rfl) (by kernel_rfl))) ?_
   obtain ⟨g10, hp11⟩ := ite_some hp7
   obtain ⟨b12, p13, hA14, hc15⟩ := ha0v_0.atF g10.1 g10.2
   refine q_indexAddr (c := (hd (cd42 [1, 0, 1, 0, 0]) 10)) (i := 8) (d := (some 22)) (ty := 0) (t := 22) (e := 24) (n := a0v.l.length) (cp := ca0v_0) (sz := 7) (kk := .i64) (x := (.tmp 17)) (y := (.tmp 21)) (b := b12) (o' := p13) (j := a0v.at_) (by kernel_rfl) (by kernel_rfl) (slv (by kernel_rfl) hA14) (by kernel_rfl) (by kernel_rfl) (by kernel_rfl) g10.1 g10.2 ?_
   refine q_load (c := (hd (cd42 [1, 0, 1, 0, 0]) 10)) (i := 9) (d := (some 23)) (ty := 24) (t := 24) (x := (.tmp 22)) (p := ⟨b12, p13 + a0v.at_.toNat * 7, none⟩) (v := .agg (enc_api_Token (gt a0v.l a0v.at_)).toArray) (by kernel_rfl) (by kernel_rfl) (by kernel_rfl) (fun w hC => (loads_agg (hc15.cells hC) (by kernel_rfl) (by kernel_rfl))) ?_
   refine Qs.nil ?_
   intro w16 hS17
   refine r_store (c := (cd42 [1, 0, 1, 0, 0])) (i := 10) (d := none) (ty := 0) (t := 24) (x := (.tmp 2)) (y := (.tmp 23)) (b := b1) (o := 0) (e := 24) (cs := enc_api_Token (⟨0, (⟨#[]⟩ : ByteArray), 0, 0, 0, 0, 0⟩ : api_Token)) (v := .agg (enc_api_Token (gt a0v.l a0v.at_)).toArray) (vs := enc_api_Token (gt a0v.l a0v.at_)) (cs' := enc_api_Token (gt a0v.l a0v.at_)) hS17 (by kernel_rfl) (by kernel_rfl) (by kernel_rfl) (by kernel_rfl) (by kernel_rfl) (by kernel_rfl) (one_api_Token _) (Nat.le_of_ble_eq_true (by kernel_rfl)) (by kernel_rfl) ?_
   intro w18 hS19
   refine sx_run 2 (todo' := [.code (cd42 [1, 0, 1, 0, 1]), .code (cd42 [1, 1])]) (us := [(3, .bool true)]) (by kernel_rfl) ?_
   have hS20 := hS19.drop
   refine runs_ret (fn := Tryz.f42) (v := .tuple #[.agg (enc_api_Token (gt a0v.l a0v.at_)).toArray, .bool true]) Tryz.func42 (resl_run (fn := Tryz.f42) (by kernel_rfl) (.cell (t := 2) (ty := 24) (by kernel_rfl) (loads_agg (hS19.blk 0 rfl) (by kernel_rfl) (by kernel_rfl)) (.tmp (t := 3) (by kernel_rfl) .nil))) ?_
   have hr21 := (Option.some.inj hp11)
   cases hr21
   exact hR _ _ ⟨rfl, hS20⟩
  ·skip
   have hp22 := ite_f hp0 h6
   refine Qs.nil ?_
   intro w23 hS24
   refine sx_run 5 (todo' := [.inRegion (opsOf (cd42 [1, 1, 0])) [1, 2], .code (cd42 [1, 1, 1])]) (us := [(24, .agg (enc_api_Token (⟨0, (⟨#[]⟩ : ByteArray), 0, 0, 0, 0, 0⟩ : api_Token)).toArray)]) (by kernel_rfl) ?_
   refine r_store (c := (cd42 [1, 1, 0])) (i := 1) (d := none) (ty := 0) (t := 24) (x := (.tmp 2)) (y := (.tmp 24)) (b := b1) (o := 0) (e := 24) (cs := enc_api_Token (⟨0, (⟨#[]⟩ : ByteArray), 0, 0, 0, 0, 0⟩ : api_Token)) (v := .agg (enc_api_Token (⟨0, (⟨#[]⟩ : ByteArray), 0, 0, 0, 0, 0⟩ : api_Token)).toArray) (vs := enc_api_Token (⟨0, (⟨#[]⟩ : ByteArray), 0, 0, 0, 0, 0⟩ : api_Token)) (cs' := enc_api_Token (⟨0, (⟨#[]⟩ : ByteArray), 0, 0, 0, 0, 0⟩ : api_Token)) hS24 (by kernel_rfl) (by kernel_rfl) (by kernel_rfl) (by kernel_rfl) (by kernel_rfl) (by kernel_rfl) (one_api_Token _) (Nat.le_of_ble_eq_true (by kernel_rfl)) (by kernel_rfl) ?_
   intro w25 hS26
   refine sx_run 2 (todo' := [.code (cd42 [1, 1, 1])]) (us := [(3, .bool false)]) (by kernel_rfl) ?_
   have hS27 := hS26.drop
   refine runs_ret (fn := Tryz.f42) (v := .tuple #[.agg (enc_api_Token (⟨0, (⟨#[]⟩ : ByteArray), 0, 0, 0, 0, 0⟩ : api_Token)).toArray, .bool false]) Tryz.func42 (resl_run (fn := Tryz.f42) (by kernel_rfl) (.cell (t := 2) (ty := 24) (by kernel_rfl) (loads_agg (hS26.blk 0 rfl) (by kernel_rfl) (by kernel_rfl)) (.tmp (t := 3) (by kernel_rfl) .nil))) ?_
   have hr28 := (Option.some.inj hp22)
   cases hr28
   exact hR _ _ ⟨rfl, hS27⟩

noncomputable def cd40 (p : List Nat) : Code := sub (bodyOf Tryz.f40) p
def cond_reader__syntax.f (a0v : cond_reader) : Option (Sum PErr Unit) :=
  (cond_reader__next.f (⟨a0v.l, a0v.at_, a0v.last, a0v.depth, a0v.c⟩ : cond_reader) >>= (fun (t1, t2) => (((if (!t2) = true then (if (decide ((a0v.l.length : Int) > 0)) = true then (if 0 ≤ (IntKind.i64.wrap ((a0v.l.length : Int) - 1)) ∧ (IntKind.i64.wrap ((a0v.l.length : Int) - 1)) < (a0v.l.length : Int) then some ((gt a0v.l (IntKind.i64.wrap ((a0v.l.length : Int) - 1)))) else none) else some (t1)) else some (t1)) : Option api_Token) >>= (fun t18 => (cond_reader__fail.f (⟨a0v.l, a0v.at_, a0v.last, a0v.depth, a0v.c⟩ : cond_reader) t18 70 >>= (fun | .inl pe27 => some (.inl pe27) | .inr _ => none))))))
set_option maxHeartbeats 16000000 in
theorem cond_reader__syntax.ok (a0v : cond_reader) (ba0 : Nat) (Aa0v_0 : Option Addr) (ca0v_0 : Nat) (Aa0v_4 : Option Addr) (ca0v_4 : Nat) {w0 : World} {Z : Zm} {fs : List XObj} {w : World} (hS0 : St w0 Z (xblk ba0 44 ([.slice Aa0v_0 a0v.l.length ca0v_0] ++ [.int .i64 a0v.at_] ++ (enc_api_Token a0v.last) ++ [.int .i64 a0v.depth] ++ [.slice Aa0v_4 a0v.c.length ca0v_4]) :: fs) w) (ha0v_0 : SlZ (flat enc_api_Token) 7 Z Aa0v_0 ca0v_0 a0v.l) (ha0v_4 : SlZ (flat enc_api_Node) 6 Z Aa0v_4 ca0v_4 a0v.c) {qr : Sum PErr Unit} (hp0 : cond_reader__syntax.f a0v = some qr) :
    Calls Tryz.prog 40 #[.pointer (some ⟨ba0, 0, none⟩)] w (fun e w' => PanQ (fun p => ∃ (v : Value) (Z' : Zm), Zm.Le Z Z' ∧ e = .panicked [{ v := v, recovered := false }] ∧ St w0 Z' fs w' ∧ RepE 39 40 Z' v p) (fun q => False) qr) := by
  refine calls_abs ?_; intro R hR
  unfold cond_reader__syntax.f at hp0
  refine calls_of_runs (fn := Tryz.f40) (c := cd40 []) Tryz.func40 (by kernel_rfl) (al := [.pointer (some ⟨ba0, 0, none⟩)]) rfl (n := 33) rfl ?_
  refine sx_run 3 (todo' := [.inRegion (opsOf (cd40 [0])) [1, 2, 3, 4, 5, 6, 7], .code (cd40 [1])]) (us := [(5, .pointer (some ⟨ba0, 0, none⟩))]) (by kernel_rfl) ?_
  obtain ⟨⟨t1, t2⟩, hr3, hp4⟩ := bind_some' hp0
  try dsimp only at hp4
  refine r_call1 (c := (cd40 [0])) (i := 1) (d := (some 6)) (g := 42) (args := #[.pointer (some ⟨ba0, 0, none⟩)]) (by kernel_rfl) (by kernel_rfl) (by kernel_rfl) (by kernel_rfl) (cond_reader__next.ok (⟨a0v.l, a0v.at_, a0v.last, a0v.depth, a0v.c⟩ : cond_reader) ba0 Aa0v_0 ca0v_0 Aa0v_4 ca0v_4 hS0 ha0v_0 ha0v_4 hr3) ?_
  rintro _ w7 ⟨rfl, hS8⟩
  refine ⟨.tuple #[.agg (enc_api_Token t1).toArray, .bool t2], rfl, ?_⟩
  refine sx_run 3 (todo' := [.inRegion (opsOf (cd40 [0])) [5, 6, 7], .code (cd40 [1])]) (us := [(4, .tuple #[.agg (enc_api_Token t1).toArray, .bool t2]), (7, .agg (enc_api_Token t1).toArray), (8, .bool t2)]) (by kernel_rfl) ?_
  refine r_alloc (c := (cd40 [0])) (i := 5) (d := (some 2)) (ty := 0) (z := .agg (enc_api_Token (⟨0, (⟨#[]⟩ : ByteArray), 0, 0, 0, 0, 0⟩ : api_Token)).toArray) (t := 24) (cs := enc_api_Token (⟨0, (⟨#[]⟩ : ByteArray), 0, 0, 0, 0, 0⟩ : api_Token)) hS8 (by kernel_rfl) (by kernel_rfl) (by kernel_rfl) (by kernel_rfl) ?_
  intro b9 w10 hS11
  refine r_store (c := (cd40 [0])) (i := 6) (d := none) (ty := 0) (t := 24) (x := (.tmp 2)) (y := (.tmp 7)) (b := b9) (o := 0) (e := 24) (cs := enc_api_Token (⟨0, (⟨#[]⟩ : ByteArray), 0, 0, 0, 0, 0⟩ : api_Token)) (v := .agg (enc_api_Token t1).toArray) (vs := enc_api_Token t1) (cs' := enc_api_Token t1) hS11 (by kernel_rfl) (by kernel_rfl) (by kernel_rfl) (by kernel_rfl) (by kernel_rfl) (by kernel_rfl) (one_api_Token _) (Nat.le_of_ble_eq_true (by kernel_rfl)) (by kernel_rfl) ?_
  intro w13 hS14
  obtain ⟨v15, hv16, hp17⟩ := bind_some' hp4
  have J21 : ∀ (t18 : api_Token) (he23 : t18 = v15) (l22 : List Value) (w19 : World) (hS20 : St w0 Z (xblk ba0 44 ([.slice Aa0v_0 a0v.l.length ca0v_0] ++ [.int .i64 a0v.at_] ++ (enc_api_Token a0v.last) ++ [.int .i64 a0v.depth] ++ [.slice Aa0v_4 a0v.c.length ca0v_4]) :: xblk b9 24 (enc_api_Token t18) :: fs) w19), Runs Tryz.prog (fx 40) [.code (cd40 [1, 1])] (fill [some (.pointer (some ⟨ba0, 0, none⟩)), none, some (.pointer (some ⟨b9, 0, none⟩)), none, none, none, none, none, none, none, none, none, none, none, none, none, none, none, none, none, none, none, none, none, none, none, none, none, none, none, none, none, none, none] l22) w19 R := by
   intro t18 he23 l22 w19 hS20
   subst he23
   try dsimp only at hp17
   refine sx_run 2 (todo' := [.inRegion (opsOf (cd40 [1, 1])) [1, 2]]) (us := [(31, .pointer (some ⟨ba0, 0, none⟩))]) (by kernel_rfl) ?_
   refine r_load (c := (cd40 [1, 1])) (i := 1) (d := (some 32)) (ty := 24) (t := 24) (x := (.tmp 2)) (p := ⟨b9, 0, none⟩) (v := .agg (enc_api_Token t18).toArray) (by kernel_rfl) (by kernel_rfl) (by kernel_rfl) (loads_agg (hS20.blk 1 rfl) (by kernel_rfl) (by kernel_rfl)) ?_
   obtain ⟨q26, hr24, hp25⟩ := bind_some' hp17
   rcases q26 with pe27 | _
   ·skip
    try dsimp only at hp25
    refine r_callX (c := (cd40 [1, 1])) (i := 2) (d := (some 33)) (g := 33) (args := #[.pointer (some ⟨ba0, 0, none⟩), .agg (enc_api_Token t18).toArray, .int .i64 70]) (by kernel_rfl) (by kernel_rfl) (by kernel_rfl) (by kernel_rfl) (cond_reader__fail.ok (⟨a0v.l, a0v.at_, a0v.last, a0v.depth, a0v.c⟩ : cond_reader) t18 70 ba0 Aa0v_0 ca0v_0 Aa0v_4 ca0v_4 hS20 ha0v_0 ha0v_4 hr24) ?_
    rintro _ w33 ⟨v28, Z29, hz30, rfl, hS31, he32⟩
    refine ⟨_, rfl, ?_⟩
    have hS35 := hS31.drop
    refine raised_fx Tryz.func40 ?_
    have hr36 := (Option.some.inj hp25)
    cases hr36
    exact hR _ _ (panq_l ⟨v28, Z29, hz30, rfl, hS35, he32⟩)
   ·skip
    try dsimp only at hp25
    cases hp25
  refine sx_split 7 (todo' := [.inRegion (opsOf (cd40 [1, 0, 0])) [2, 3, 4, 5, 6, 7, 8, 9], .code (cd40 [1, 0, 1]), .code (cd40 [1, 1])]) (us := [(3, .bool t2), (9, .bool t2)]) (d := 10) (t := (!t2)) (by kernel_rfl) (fun h37 => ?_) (fun h38 => ?_)
  ·skip
   have hp39 := ite_t hv16 h37
   refine sx_run 4 (todo' := [.inRegion (opsOf (cd40 [1, 0, 0])) [6, 7, 8, 9], .code (cd40 [1, 0, 1]), .code (cd40 [1, 1])]) (us := [(11, .bool true), (12, .pointer (some ⟨ba0, 0, none⟩)), (13, .pointer (some ⟨ba0, 0, none⟩)), (14, .pointer (some ⟨ba0, 0, none⟩))]) (by kernel_rfl) ?_
   refine r_load (c := (cd40 [1, 0, 0])) (i := 6) (d := (some 15)) (ty := 22) (t := 22) (x := (.tmp 14)) (p := ⟨ba0, 0, none⟩) (v := .slice Aa0v_0 a0v.l.length ca0v_0) (by kernel_rfl) (by kernel_rfl) (by kernel_rfl) (loads_at 0 (hS14.blk 1 rfl) (by kernel_rfl) (by kernel_rfl)) ?_
   refine sx_split 2 (todo' := [.inRegion (opsOf (cd40 [1, 0, 0])) [9], .code (cd40 [1, 0, 1]), .code (cd40 [1, 1])]) (us := [(16, .int .i64 (a0v.l.length : Int))]) (d := 17) (t := (decide ((a0v.l.length : Int) > 0))) (by kernel_rfl) (fun h40 => ?_) (fun h41 => ?_)
   ·skip
    have hp42 := ite_t hp39 h40
    refine sx_run 3 (todo' := [.code (cd40 [1, 0, 1, 0]), .code (cd40 [1, 1])]) (us := [(18, .bool true)]) (by kernel_rfl) ?_
    refine r_drawn3 (C := St w0 Z (xblk b9 24 (enc_api_Token t1) :: xblk ba0 44 ([.slice Aa0v_0 a0v.l.length ca0v_0] ++ [.int .i64 a0v.at_] ++ (enc_api_Token a0v.last) ++ [.int .i64 a0v.depth] ++ [.slice Aa0v_4 a0v.c.length ca0v_4]) :: fs)) (c := (cd40 [1, 0, 1, 0])) (id := 2) (by kernel_rfl) (by kernel_rfl) 12 (Nat.le_of_ble_eq_true (by kernel_rfl)) (by kernel_rfl) (by kernel_rfl) (by kernel_rfl) (is := [0, 1, 2, 3, 4, 5, 6, 7, 8, 9, 10, 11]) (rest := [12]) (by kernel_rfl) (by kernel_rfl) hS14.drew ?_
    refine q_run 3 (is' := [3, 4, 5, 6, 7, 8, 9, 10, 11]) (us := [(19, .pointer (some ⟨ba0, 0, none⟩)), (20, .pointer (some ⟨ba0, 0, none⟩)), (21, .pointer (some ⟨ba0, 0, none⟩))]) (by kernel_rfl) ?_
    refine q_load (c := (hd (cd40 [1, 0, 1, 0]) 12)) (i := 3) (d := (some 22)) (ty := 22) (t := 22) (x := (.tmp 21)) (p := ⟨ba0, 0, none⟩) (v := .slice Aa0v_0 a0v.l.length ca0v_0) (by kernel_rfl) (by kernel_rfl) (by kernel_rfl) (fun w hC => (loads_at 0 (hC.blk 1 rfl) (by kernel_rfl) (by kernel_rfl))) ?_
    refine q_run 3 (is' := [7, 8, 9, 10, 11]) (us := [(23, .pointer (some ⟨ba0, 0, none⟩)), (24, .pointer (some ⟨ba0, 0, none⟩)), (25, .pointer (some ⟨ba0, 0, none⟩))]) (by kernel_rfl) ?_
    refine q_load (c := (hd (cd40 [1, 0, 1, 0]) 12)) (i := 7) (d := (some 26)) (ty := 22) (t := 22) (x := (.tmp 25)) (p := ⟨ba0, 0, none⟩) (v := .slice Aa0v_0 a0v.l.length ca0v_0) (by kernel_rfl) (by kernel_rfl) (by kernel_rfl) (fun w hC => (loads_at 0 (hC.blk 1 rfl) (by kernel_rfl) (by kernel_rfl))) ?_
    refine q_run 2 (is' := [10, 11]) (us := [(27, .int .i64 (a0v.l.length : Int)), (28, .int .i64 (IntKind.i64.wrap ((a0v.l.length : Int) - 1)))]) (by kernel_rfl) ?_
    obtain ⟨g43, hp44⟩ := ite_some hp42
    obtain ⟨b45, p46, hA47, hc48⟩ := ha0v_0.atF g43.1 g43.2
    refine q_indexAddr (c := (hd (cd40 [1, 0, 1, 0]) 12)) (i := 10) (d := (some 29)) (ty := 0) (t := 22) (e := 24) (n := a0v.l.length) (cp := ca0v_0) (sz := 7) (kk := .i64) (x := (.tmp 22)) (y := (.tmp 28)) (b := b45) (o' := p46) (j := (IntKind.i64.wrap ((a0v.l.length : Int) - 1))) (by kernel_rfl) (by kernel_rfl) (slv (by kernel_rfl) hA47) (by kernel_rfl) (by kernel_rfl) (by kernel_rfl) g43.1 g43.2 ?_
    refine q_load (c := (hd (cd40 [1, 0, 1, 0]) 12)) (i := 11) (d := (some 30)) (ty := 24) (t := 24) (x := (.tmp 29)) (p := ⟨b45, p46 + (IntKind.i64.wrap ((a0v.l.length : Int) - 1)).toNat * 7, none⟩) (v := .agg (enc_api_Token (gt a0v.l (IntKind.i64.wrap ((a0v.l.length : Int) - 1)))).toArray) (by kernel_rfl) (by kernel_rfl) (by kernel_rfl) (fun w hC => (loads_agg (hc48.cells hC) (by kernel_rfl) (by kernel_rfl))) ?_
    refine Qs.nil ?_
    intro w49 hS50
    refine r_store (c := (cd40 [1, 0, 1, 0])) (i := 12) (d := none) (ty := 0) (t := 24) (x := (.tmp 2)) (y := (.tmp 30)) (b := b9) (o := 0) (e := 24) (cs := enc_api_Token t1) (v := .agg (enc_api_Token (gt a0v.l (IntKind.i64.wrap ((a0v.l.length : Int) - 1)))).toArray) (vs := enc_api_Token (gt a0v.l (IntKind.i64.wrap ((a0v.l.length : Int) - 1)))) (cs' := enc_api_Token (gt a0v.l (IntKind.i64.wrap ((a0v.l.length : Int) - 1)))) hS50 (by kernel_rfl) (by kernel_rfl) (by kernel_rfl) (by kernel_rfl) (by kernel_rfl) (by kernel_rfl) (one_api_Token _) (Nat.le_of_ble_eq_true (by kernel_rfl)) (by kernel_rfl) ?_
    intro w51 hS52
    refine sx_run 1 (todo' := [.code (cd40 [1, 1])]) (us := []) (by kernel_rfl) ?_
    have hS53 := hS52.pick1
    refine Runs.fill (m := [some (.pointer (some ⟨ba0, 0, none⟩)), none, some (.pointer (some ⟨b9, 0, none⟩)), none, none, none, none, none, none, none, none, none, none, none, none, none, none, none, none, none, none, none, none, none, none, none, none, none, none, none, none, none, none, none]) (by kernel_rfl) ?_
    exact J21 (gt a0v.l (IntKind.i64.wrap ((a0v.l.length : Int) - 1))) (Option.some.inj hp44) _ _ hS53
   ·skip
    have hp54 := ite_f hp39 h41
    refine sx_run 4 (todo' := [.code (cd40 [1, 1])]) (us := [(18, .bool false)]) (by kernel_rfl) ?_
    have hS55 := hS14.pick1
    refine Runs.fill (m := [some (.pointer (some ⟨ba0, 0, none⟩)), none, some (.pointer (some ⟨b9, 0, none⟩)), none, none, none, none, none, none, none, none, none, none, none, none, none, none, none, none, none, none, none, none, none, none, none, none, none, none, none, none, none, none, none]) (by kernel_rfl) ?_
    exact J21 t1 (Option.some.inj hp54) _ _ hS55
  ·skip
   have hp56 := ite_f hv16 h38
   refine sx_run 11 (todo' := [.code (cd40 [1, 1])]) (us := [(11, .bool false), (12, undef), (13, undef), (14, undef), (15, undef), (16, undef), (17, undef), (18, .bool false)]) (by kernel_rfl) ?_
   have hS57 := hS14.pick1
   refine Runs.fill (m := [some (.pointer (some ⟨ba0, 0, none⟩)), none, some (.pointer (some ⟨b9, 0, none⟩)), none, none, none, none, none, none, none, none, none, none, none, none, none, none, none, none, none, none, none, none, none, none, none, none, none, none, none, none, none, none, none]) (by kernel_rfl) ?_
   exact J21 t1 (Option.some.inj hp56) _ _ hS57

noncomputable def cd66 (p : List Nat) : Code := sub (bodyOf Tryz.f66) p
def lexis_letter.f (a0 : Int) : Option Bool :=
  (if (decide (a0 ≥ 97)) = true then (if (decide (a0 ≤ 122)) = true then some (true) else (if (decide (a0 ≥ 65)) = true then (if (decide (a0 ≤ 90)) = true then some (true) else (if (a0 == 95) = true then some (true) else some (false))) else (if (a0 == 95) = true then some (true) else some (false)))) else (if (decide (a0 ≥ 65)) = true then (if (decide (a0 ≤ 90)) = true then some (true) else (if (a0 == 95) = true then some (true) else some (false))) else (if (a0 == 95) = true then some (true) else some (false))))
set_option maxHeartbeats 16000000 in
theorem lexis_letter.ok (a0 : Int) {w0 : World} {Z : Zm} {fs : List XObj} {w : World} (hS0 : St w0 Z (fs) w) {q0 : Bool} (hp0 : lexis_letter.f a0 = some q0) :
    Calls Tryz.prog 66 #[.int .u8 a0] w (fun e w' => e = .returned (.bool q0) ∧ St w0 Z (fs) w') := by
  refine calls_abs ?_; intro R hR
  unfold lexis_letter.f at hp0
  refine calls_of_runs (fn := Tryz.f66) (c := cd66 []) Tryz.func66 (by kernel_rfl) (al := [.int .u8 a0]) rfl (n := 20) rfl ?_
  refine sx_split 8 (todo' := [.inRegion (opsOf (cd66 [1, 0])) [2, 3, 4, 5, 6, 7, 8, 9, 10, 11, 12, 13, 14, 15, 16, 17, 18], .code (cd66 [1, 1])]) (us := [(2, .bool false), (3, .int .u8 a0)]) (d := 4) (t := (decide (a0 ≥ 97))) (by kernel_rfl) (fun h1 => ?_) (fun h2 => ?_)
  ·skip
   have hp3 := ite_t hp0 h1
   refine sx_split 3 (todo' := [.inRegion (opsOf (cd66 [1, 0])) [5, 6, 7, 8, 9, 10, 11, 12, 13, 14, 15, 16, 17, 18], .code (cd66 [1, 1])]) (us := [(5, .bool true), (6, .int .u8 a0)]) (d := 7) (t := (decide (a0 ≤ 122))) (by kernel_rfl) (fun h4 => ?_) (fun h5 => ?_)
   ·skip
    have hp6 := ite_t hp3 h4
    refine sx_run 15 (todo' := [.code (cd66 [1, 1])]) (us := [(8, .bool true), (9, .bool true), (10, undef), (11, undef), (12, undef), (13, undef), (14, undef), (15, undef), (16, .bool true), (17, .bool true), (18, undef), (19, undef), (20, .bool true), (2, .bool true)]) (by kernel_rfl) ?_
    refine runs_ret (fn := Tryz.f66) (v := .bool true) Tryz.func66 (by kernel_rfl) ?_
    have hr7 := (Option.some.inj hp6)
    cases hr7
    exact hR _ _ ⟨rfl, hS0⟩
   ·skip
    have hp8 := ite_f hp3 h5
    refine sx_split 4 (todo' := [.inRegion (opsOf (cd66 [1, 0])) [9, 10, 11, 12, 13, 14, 15, 16, 17, 18], .code (cd66 [1, 1])]) (us := [(8, .bool false), (9, .bool false), (10, .int .u8 a0)]) (d := 11) (t := (decide (a0 ≥ 65))) (by kernel_rfl) (fun h9 => ?_) (fun h10 => ?_)
    ·skip
     have hp11 := ite_t hp8 h9
     refine sx_split 3 (todo' := [.inRegion (opsOf (cd66 [1, 0])) [12, 13, 14, 15, 16, 17, 18], .code (cd66 [1, 1])]) (us := [(12, .bool true), (13, .int .u8 a0)]) (d := 14) (t := (decide (a0 ≤ 90))) (by kernel_rfl) (fun h12 => ?_) (fun h13 => ?_)
     ·skip
      have hp14 := ite_t hp11 h12
      refine sx_run 8 (todo' := [.code (cd66 [1, 1])]) (us := [(15, .bool true), (16, .bool true), (17, .bool true), (18, undef), (19, undef), (20, .bool true), (2, .bool true)]) (by kernel_rfl) ?_
      refine runs_ret (fn := Tryz.f66) (v := .bool true) Tryz.func66 (by kernel_rfl) ?_
      have hr15 := (Option.some.inj hp14)
      cases hr15
      exact hR _ _ ⟨rfl, hS0⟩
     ·skip
      have hp16 := ite_f hp11 h13
      refine sx_split 5 (todo' := [.inRegion (opsOf (cd66 [1, 0])) [17, 18], .code (cd66 [1, 1])]) (us := [(15, .bool false), (16, .bool false), (17, .bool false), (18, .int .u8 a0)]) (d := 19) (t := (a0 == 95)) (by kernel_rfl) (fun h17 => ?_) (fun h18 => ?_)
      ·skip
       have hp19 := ite_t hp16 h17
       refine sx_run 3 (todo' := [.code (cd66 [1, 1])]) (us := [(20, .bool true), (2, .bool true)]) (by kernel_rfl) ?_
       refine runs_ret (fn := Tryz.f66) (v := .bool true) Tryz.func66 (by kernel_rfl) ?_
       have hr20 := (Option.some.inj hp19)
       cases hr20
       exact hR _ _ ⟨rfl, hS0⟩
      ·skip
       have hp21 := ite_f hp16 h18
       refine sx_run 3 (todo' := [.code (cd66 [1, 1])]) (us := [(20, .bool false), (2, .bool false)]) (by kernel_rfl) ?_
       refine runs_ret (fn := Tryz.f66) (v := .bool false) Tryz.func66 (by kernel_rfl) ?_
       have hr22 := (Option.some.inj hp21)
       cases hr22
       exact hR _ _ ⟨rfl, hS0⟩
    ·skip
     have hp23 := ite_f hp8 h10
     refine sx_split 8 (todo' := [.inRegion (opsOf (cd66 [1, 0])) [17, 18], .code (cd66 [1, 1])]) (us := [(12, .bool false), (13, undef), (14, undef), (15, .bool false), (16, .bool false), (17, .bool false), (18, .int .u8 a0)]) (d := 19) (t := (a0 == 95)) (by kernel_rfl) (fun h24 => ?_) (fun h25 => ?_)
     ·skip
      have hp26 := ite_t hp23 h24
      refine sx_run 3 (todo' := [.code (cd66 [1, 1])]) (us := [(20, .bool true), (2, .bool true)]) (by kernel_rfl) ?_
      refine runs_ret (fn := Tryz.f66) (v := .bool true) Tryz.func66 (by kernel_rfl) ?_
      have hr27 := (Option.some.inj hp26)
      cases hr27
      exact hR _ _ ⟨rfl, hS0⟩
     ·skip
      have hp28 := ite_f hp23 h25
      refine sx_run 3 (todo' := [.code (cd66 [1, 1])]) (us := [(20, .bool false), (2, .bool false)]) (by kernel_rfl) ?_
      refine runs_ret (fn := Tryz.f66) (v := .bool false) Tryz.func66 (by kernel_rfl) ?_
      have hr29 := (Option.some.inj hp28)
      cases hr29
      exact hR _ _ ⟨rfl, hS0⟩
  ·skip
   have hp30 := ite_f hp0 h2
   refine sx_split 7 (todo' := [.inRegion (opsOf (cd66 [1, 0])) [9, 10, 11, 12, 13, 14, 15, 16, 17, 18], .code (cd66 [1, 1])]) (us := [(5, .bool false), (6, undef), (7, undef), (8, .bool false), (9, .bool false), (10, .int .u8 a0)]) (d := 11) (t := (decide (a0 ≥ 65))) (by kernel_rfl) (fun h31 => ?_) (fun h32 => ?_)
   ·skip
    have hp33 := ite_t hp30 h31
    refine sx_split 3 (todo' := [.inRegion (opsOf (cd66 [1, 0])) [12, 13, 14, 15, 16, 17, 18], .code (cd66 [1, 1])]) (us := [(12, .bool true), (13, .int .u8 a0)]) (d := 14) (t := (decide (a0 ≤ 90))) (by kernel_rfl) (fun h34 => ?_) (fun h35 => ?_)
    ·skip
     have hp36 := ite_t hp33 h34
     refine sx_run 8 (todo' := [.code (cd66 [1, 1])]) (us := [(15, .bool true), (16, .bool true), (17, .bool true), (18, undef), (19, undef), (20, .bool true), (2, .bool true)]) (by kernel_rfl) ?_
     refine runs_ret (fn := Tryz.f66) (v := .bool true) Tryz.func66 (by kernel_rfl) ?_
     have hr37 := (Option.some.inj hp36)
     cases hr37
     exact hR _ _ ⟨rfl, hS0⟩
    ·skip
     have hp38 := ite_f hp33 h35
     refine sx_split 5 (todo' := [.inRegion (opsOf (cd66 [1, 0])) [17, 18], .code (cd66 [1, 1])]) (us := [(15, .bool false), (16, .bool false), (17, .bool false), (18, .int .u8 a0)]) (d := 19) (t := (a0 == 95)) (by kernel_rfl) (fun h39 => ?_) (fun h40 => ?_)
     ·skip
      have hp41 := ite_t hp38 h39
      refine sx_run 3 (todo' := [.code (cd66 [1, 1])]) (us := [(20, .bool true), (2, .bool true)]) (by kernel_rfl) ?_
      refine runs_ret (fn := Tryz.f66) (v := .bool true) Tryz.func66 (by kernel_rfl) ?_
      have hr42 := (Option.some.inj hp41)
      cases hr42
      exact hR _ _ ⟨rfl, hS0⟩
     ·skip
      have hp43 := ite_f hp38 h40
      refine sx_run 3 (todo' := [.code (cd66 [1, 1])]) (us := [(20, .bool false), (2, .bool false)]) (by kernel_rfl) ?_
      refine runs_ret (fn := Tryz.f66) (v := .bool false) Tryz.func66 (by kernel_rfl) ?_
      have hr44 := (Option.some.inj hp43)
      cases hr44
      exact hR _ _ ⟨rfl, hS0⟩
   ·skip
    have hp45 := ite_f hp30 h32
    refine sx_split 8 (todo' := [.inRegion (opsOf (cd66 [1, 0])) [17, 18], .code (cd66 [1, 1])]) (us := [(12, .bool false), (13, undef), (14, undef), (15, .bool false), (16, .bool false), (17, .bool false), (18, .int .u8 a0)]) (d := 19) (t := (a0 == 95)) (by kernel_rfl) (fun h46 => ?_) (fun h47 => ?_)
    ·skip
     have hp48 := ite_t hp45 h46
     refine sx_run 3 (todo' := [.code (cd66 [1, 1])]) (us := [(20, .bool true), (2, .bool true)]) (by kernel_rfl) ?_
     refine runs_ret (fn := Tryz.f66) (v := .bool true) Tryz.func66 (by kernel_rfl) ?_
     have hr49 := (Option.some.inj hp48)
     cases hr49
     exact hR _ _ ⟨rfl, hS0⟩
    ·skip
     have hp50 := ite_f hp45 h47
     refine sx_run 3 (todo' := [.code (cd66 [1, 1])]) (us := [(20, .bool false), (2, .bool false)]) (by kernel_rfl) ?_
     refine runs_ret (fn := Tryz.f66) (v := .bool false) Tryz.func66 (by kernel_rfl) ?_
     have hr51 := (Option.some.inj hp50)
     cases hr51
     exact hR _ _ ⟨rfl, hS0⟩

noncomputable def cd67 (p : List Nat) : Code := sub (bodyOf Tryz.f67) p
def lexis_byteAt.f (a0 : ByteArray) (a1 : Int) : Option Int :=
  (if (decide (a1 < (a0.size : Int))) = true then (if 0 ≤ a1 ∧ a1 < (a0.size : Int) then some ((byt a0 a1)) else none) else some (0))
set_option maxHeartbeats 16000000 in
theorem lexis_byteAt.ok (a0 : ByteArray) (a1 : Int) {w0 : World} {Z : Zm} {fs : List XObj} {w : World} (hS0 : St w0 Z (fs) w) {q0 : Int} (hp0 : lexis_byteAt.f a0 a1 = some q0) :
    Calls Tryz.prog 67 #[.string a0, .int .i64 a1] w (fun e w' => e = .returned (.int .u8 q0) ∧ St w0 Z (fs) w') := by
  refine calls_abs ?_; intro R hR
  unfold lexis_byteAt.f at hp0
  refine calls_of_runs (fn := Tryz.f67) (c := cd67 []) Tryz.func67 (by kernel_rfl) (al := [.string a0, .int .i64 a1]) rfl (n := 10) rfl ?_
  refine sx_split 11 (todo' := [.inRegion (opsOf (cd67 [1, 0, 0])) [], .code (cd67 [1, 0, 1]), .code (cd67 [1, 1])]) (us := [(4, .int .u8 0), (5, .int .i64 a1), (6, .string a0), (7, .int .i64 (a0.size : Int))]) (d := 8) (t := (decide (a1 < (a0.size : Int)))) (by kernel_rfl) (fun h1 => ?_) (fun h2 => ?_)
  ·skip
   have hp3 := ite_t hp0 h1
   refine sx_run 6 (todo' := [.inRegion (opsOf (cd67 [1, 0, 1, 0, 0])) [2, 3], .code (cd67 [1, 0, 1, 0, 1]), .code (cd67 [1, 1])]) (us := [(9, .string a0), (10, .int .i64 a1)]) (by kernel_rfl) ?_
   obtain ⟨g4, hp5⟩ := ite_some hp3
   refine r_val (c := (cd67 [1, 0, 1, 0, 0])) (i := 2) (d := (some 11)) (ty := 5) (op := .index 9 (.tmp 9) (.tmp 10)) (v := .int .u8 (byt a0 a1)) (by kernel_rfl) (by kernel_rfl) (fun o ho _ => x_indexStr (kk := .i64) (by kernel_rfl) (by kernel_rfl) (by kernel_rfl) g4.1 g4.2 ho) ?_
   refine sx_run 2 (todo' := [.code (cd67 [1, 0, 1, 0, 1]), .code (cd67 [1, 1])]) (us := [(4, .int .u8 (byt a0 a1))]) (by kernel_rfl) ?_
   refine runs_ret (fn := Tryz.f67) (v := .int .u8 (byt a0 a1)) Tryz.func67 (by kernel_rfl) ?_
   have hr6 := (Option.some.inj hp5)
   cases hr6
   exact hR _ _ ⟨rfl, hS0⟩
  ·skip
   have hp7 := ite_f hp0 h2
   refine sx_run 7 (todo' := [.code (cd67 [1, 1, 1])]) (us := [(4, .int .u8 0)]) (by kernel_rfl) ?_
   refine runs_ret (fn := Tryz.f67) (v := .int .u8 0) Tryz.func67 (by kernel_rfl) ?_
   have hr8 := (Option.some.inj hp7)
   cases hr8
   exact hR _ _ ⟨rfl, hS0⟩

noncomputable def cd68 (p : List Nat) : Code := sub (bodyOf Tryz.f68) p
def lexis_digit.f (a0 : Int) : Option Bool :=
  (if (decide (a0 ≥ 48)) = true then (if (decide (a0 ≤ 57)) = true then some (true) else some (false)) else some (false))
set_option maxHeartbeats 16000000 in
theorem lexis_digit.ok (a0 : Int) {w0 : World} {Z : Zm} {fs : List XObj} {w : World} (hS0 : St w0 Z (fs) w) {q0 : Bool} (hp0 : lexis_digit.f a0 = some q0) :
    Calls Tryz.prog 68 #[.int .u8 a0] w (fun e w' => e = .returned (.bool q0) ∧ St w0 Z (fs) w') := by
  refine calls_abs ?_; intro R hR
  unfold lexis_digit.f at hp0
  refine calls_of_runs (fn := Tryz.f68) (c := cd68 []) Tryz.func68 (by kernel_rfl) (al := [.int .u8 a0]) rfl (n := 8) rfl ?_
  refine sx_split 8 (todo' := [.inRegion (opsOf (cd68 [1, 0])) [2, 3, 4, 5, 6], .code (cd68 [1, 1])]) (us := [(2, .bool false), (3, .int .u8 a0)]) (d := 4) (t := (decide (a0 ≥ 48))) (by kernel_rfl) (fun h1 => ?_) (fun h2 => ?_)
  ·skip
   have hp3 := ite_t hp0 h1
   refine sx_split 3 (todo' := [.inRegion (opsOf (cd68 [1, 0])) [5, 6], .code (cd68 [1, 1])]) (us := [(5, .bool true), (6, .int .u8 a0)]) (d := 7) (t := (decide (a0 ≤ 57))) (by kernel_rfl) (fun h4 => ?_) (fun h5 => ?_)
   ·skip
    have hp6 := ite_t hp3 h4
    refine sx_run 3 (todo' := [.code (cd68 [1, 1])]) (us := [(8, .bool true), (2, .bool true)]) (by kernel_rfl) ?_
    refine runs_ret (fn := Tryz.f68) (v := .bool true) Tryz.func68 (by kernel_rfl) ?_
    have hr7 := (Option.some.inj hp6)
    cases hr7
    exact hR _ _ ⟨rfl, hS0⟩
   ·skip
    have hp8 := ite_f hp3 h5
    refine sx_run 3 (todo' := [.code (cd68 [1, 1])]) (us := [(8, .bool false), (2, .bool false)]) (by kernel_rfl) ?_
    refine runs_ret (fn := Tryz.f68) (v := .bool false) Tryz.func68 (by kernel_rfl) ?_
    have hr9 := (Option.some.inj hp8)
    cases hr9
    exact hR _ _ ⟨rfl, hS0⟩
  ·skip
   have hp10 := ite_f hp0 h2
   refine sx_run 6 (todo' := [.code (cd68 [1, 1])]) (us := [(5, .bool false), (6, undef), (7, undef), (8, .bool false), (2, .bool false)]) (by kernel_rfl) ?_
   refine runs_ret (fn := Tryz.f68) (v := .bool false) Tryz.func68 (by kernel_rfl) ?_
   have hr11 := (Option.some.inj hp10)
   cases hr11
   exact hR _ _ ⟨rfl, hS0⟩

noncomputable def cd54 (p : List Nat) : Code := sub (bodyOf Tryz.f54) p
def lexis_name.l0 (a0 : ByteArray) (t22 : Int) : Option Int :=
  (lexis_byteAt.f a0 t22 >>= (fun t33 => (lexis_byteAt.f a0 (IntKind.i64.wrap (t22 + 1)) >>= (fun t38 => (if (t22 == (a0.size : Int)) = true then some (t22) else (lexis_letter.f t33 >>= (fun t48 => (((if t48 = true then some (true) else (lexis_digit.f t33 >>= (fun t104 => (if t104 = true then some (true) else (if (t33 == 46) = true then some (true) else some (false)))))) : Option Bool) >>= (fun t56 => (if t56 = true then (lexis_name.l0 a0 (IntKind.i64.wrap (t22 + 1))) else (if (t33 == 43) = true then (lexis_letter.f t38 >>= (fun t66 => (if t66 = true then (lexis_name.l0 a0 (IntKind.i64.wrap (t22 + 1))) else (lexis_digit.f t38 >>= (fun t72 => (if t72 = true then (lexis_name.l0 a0 (IntKind.i64.wrap (t22 + 1))) else some (t22))))))) else (if (t33 == 45) = true then (lexis_letter.f t38 >>= (fun t85 => (if t85 = true then (lexis_name.l0 a0 (IntKind.i64.wrap (t22 + 1))) else (lexis_digit.f t38 >>= (fun t91 => (if t91 = true then (lexis_name.l0 a0 (IntKind.i64.wrap (t22 + 1))) else some (t22))))))) else some (t22)))))))))))))
 partial_fixpoint
def lexis_name.f (a0 : ByteArray) : Option Int :=
  (if (seq a0 (⟨#[]⟩ : ByteArray)) = true then some (0) else (if 0 ≤ (0 : Int) ∧ (0 : Int) < (a0.size : Int) then (lexis_letter.f (byt a0 (0 : Int)) >>= (fun t8 => (if (!t8) = true then some (0) else (lexis_name.l0 a0 1 >>= fun e => some e)))) else none))
set_option maxHeartbeats 16000000 in
theorem lexis_name.ok (a0 : ByteArray) {w0 : World} {Z : Zm} {fs : List XObj} {w : World} (hS0 : St w0 Z (fs) w) {q0 : Int} (hp0 : lexis_name.f a0 = some q0) :
    Calls Tryz.prog 54 #[.string a0] w (fun e w' => e = .returned (.int .i64 q0) ∧ St w0 Z (fs) w') := by
  refine calls_abs ?_; intro R hR
  unfold lexis_name.f at hp0
  refine calls_of_runs (fn := Tryz.f54) (c := cd54 []) Tryz.func54 (by kernel_rfl) (al := [.string a0]) rfl (n := 51) rfl ?_
  refine sx_split 9 (todo' := [.inRegion (opsOf (cd54 [1, 0, 0])) [2, 3, 4, 5, 6, 7], .code (cd54 [1, 0, 1]), .code (cd54 [1, 1])]) (us := [(2, .int .i64 0), (6, .string a0)]) (d := 7) (t := (seq a0 (⟨#[]⟩ : ByteArray))) (by kernel_rfl) (fun h1 => ?_) (fun h2 => ?_)
  ·skip
   have hp3 := ite_t hp0 h1
   refine sx_run 12 (todo' := [.code (cd54 [1, 0, 1, 0, 1]), .code (cd54 [1, 1])]) (us := [(8, .bool true), (9, undef), (10, undef), (11, undef), (12, undef), (13, .bool true), (2, .int .i64 0)]) (by kernel_rfl) ?_
   refine runs_ret (fn := Tryz.f54) (v := .int .i64 0) Tryz.func54 (by kernel_rfl) ?_
   have hr4 := (Option.some.inj hp3)
   cases hr4
   exact hR _ _ ⟨rfl, hS0⟩
  ·skip
   have hp5 := ite_f hp0 h2
   refine sx_run 2 (todo' := [.inRegion (opsOf (cd54 [1, 0, 0])) [4, 5, 6, 7], .code (cd54 [1, 0, 1]), .code (cd54 [1, 1])]) (us := [(8, .bool false), (9, .string a0)]) (by kernel_rfl) ?_
   obtain ⟨g6, hp7⟩ := ite_some hp5
   refine r_val (c := (cd54 [1, 0, 0])) (i := 4) (d := (some 10)) (ty := 5) (op := .index 9 (.tmp 9) (.const (.int .i64 0))) (v := .int .u8 (byt a0 (0 : Int))) (by kernel_rfl) (by kernel_rfl) (fun o ho _ => x_indexStr (kk := .i64) (by kernel_rfl) (by kernel_rfl) (by kernel_rfl) g6.1 g6.2 ho) ?_
   obtain ⟨t8, hr9, hp10⟩ := bind_some' hp7
   refine r_call1 (c := (cd54 [1, 0, 0])) (i := 5) (d := (some 11)) (g := 66) (args := #[.int .u8 (byt a0 (0 : Int))]) (by kernel_rfl) (by kernel_rfl) (by kernel_rfl) (by kernel_rfl) (lexis_letter.ok (byt a0 (0 : Int)) hS0 hr9) ?_
   rintro _ w11 ⟨rfl, hS12⟩
   refine ⟨.bool t8, rfl, ?_⟩
   refine sx_split 1 (todo' := [.inRegion (opsOf (cd54 [1, 0, 0])) [7], .code (cd54 [1, 0, 1]), .code (cd54 [1, 1])]) (us := []) (d := 12) (t := (!t8)) (by kernel_rfl) (fun h13 => ?_) (fun h14 => ?_)
   ·skip
    have hp15 := ite_t hp10 h13
    refine sx_run 7 (todo' := [.code (cd54 [1, 0, 1, 0, 1]), .code (cd54 [1, 1])]) (us := [(13, .bool true), (2, .int .i64 0)]) (by kernel_rfl) ?_
    refine runs_ret (fn := Tryz.f54) (v := .int .i64 0) Tryz.func54 (by kernel_rfl) ?_
    have hr16 := (Option.some.inj hp15)
    cases hr16
    exact hR _ _ ⟨rfl, hS12⟩
   ·skip
    have hp17 := ite_f hp10 h14
    refine sx_run 10 (todo' := [.code (cd54 [1, 1, 1, 0, 0]), .inLoop (cd54 [1, 1, 1, 0, 0]), .inBlock 0]) (us := [(13, .bool false), (3, .int .i64 1)]) (by kernel_rfl) ?_
    obtain ⟨v18, hv19, hp20⟩ := bind_some' hp17
    have hq21 : ∀ x, x = v18 → x = q0 := by intro x hx; subst hx; simpa using hp20
    have L31 : ∀ (t22 : Int) (e26 : Int), lexis_name.l0 a0 t22 = some e26 → e26 = v18 → ∀ (l25 : List Value) (w23 : World) (hS24 : St w0 Z (fs) w23), Runs Tryz.prog (fx 54) [.code (cd54 [1, 1, 1, 0, 0]), .inLoop (cd54 [1, 1, 1, 0, 0]), .inBlock 0] (fill [some (.string a0), none, none, some (.int .i64 t22), none, none, none, none, none, none, none, none, none, none, none, none, none, none, none, none, none, none, none, none, none, none, none, none, none, none, none, none, none, none, none, none, none, none, none, none, none, none, none, none, none, none, none, none, none, none, none, none] l25) w23 R := by
     refine lexis_name.l0.partial_correctness a0 (fun t22 e26 => e26 = v18 → ∀ (l25 : List Value) (w23 : World) (hS24 : St w0 Z (fs) w23), Runs Tryz.prog (fx 54) [.code (cd54 [1, 1, 1, 0, 0]), .inLoop (cd54 [1, 1, 1, 0, 0]), .inBlock 0] (fill [some (.string a0), none, none, some (.int .i64 t22), none, none, none, none, none, none, none, none, none, none, none, none, none, none, none, none, none, none, none, none, none, none, none, none, none, none, none, none, none, none, none, none, none, none, none, none, none, none, none, none, none, none, none, none, none, none, none, none] l25) w23 R) ?_
     intro rec30 ih29 t22 e26 hb28 he27 l25 w23 hS24
     have hq32 : ∀ x, id x = e26 → x = q0 := fun x hx => hq21 x (hx.trans he27)
     refine sx_run 6 (todo' := [.inRegion (opsOf (cd54 [1, 1, 1, 0, 0, 0, 0, 0])) [2, 3, 4, 5, 6, 7, 8], .code (cd54 [1, 1, 1, 0, 0, 0, 0, 1]), .inBlock 1, .code (cd54 [1, 1, 1, 0, 0, 1]), .inLoop (cd54 [1, 1, 1, 0, 0]), .inBlock 0]) (us := [(16, .string a0), (17, .int .i64 t22)]) (by kernel_rfl) ?_
     obtain ⟨t33, hr34, hp35⟩ := bind_some' hb28
     refine r_call1 (c := (cd54 [1, 1, 1, 0, 0, 0, 0, 0])) (i := 2) (d := (some 18)) (g := 67) (args := #[.string a0, .int .i64 t22]) (by kernel_rfl) (by kernel_rfl) (by kernel_rfl) (by kernel_rfl) (lexis_byteAt.ok a0 t22 hS24 hr34) ?_
     rintro _ w36 ⟨rfl, hS37⟩
     refine ⟨.int .u8 t33, rfl, ?_⟩
     refine sx_run 3 (todo' := [.inRegion (opsOf (cd54 [1, 1, 1, 0, 0, 0, 0, 0])) [6, 7, 8], .code (cd54 [1, 1, 1, 0, 0, 0, 0, 1]), .inBlock 1, .code (cd54 [1, 1, 1, 0, 0, 1]), .inLoop (cd54 [1, 1, 1, 0, 0]), .inBlock 0]) (us := [(19, .string a0), (20, .int .i64 t22), (21, .int .i64 (IntKind.i64.wrap (t22 + 1)))]) (by kernel_rfl) ?_
     obtain ⟨t38, hr39, hp40⟩ := bind_some' hp35
     refine r_call1 (c := (cd54 [1, 1, 1, 0, 0, 0, 0, 0])) (i := 6) (d := (some 22)) (g := 67) (args := #[.string a0, .int .i64 (IntKind.i64.wrap (t22 + 1))]) (by kernel_rfl) (by kernel_rfl) (by kernel_rfl) (by kernel_rfl) (lexis_byteAt.ok a0 (IntKind.i64.wrap (t22 + 1)) hS37 hr39) ?_
     rintro _ w41 ⟨rfl, hS42⟩
     refine ⟨.int .u8 t38, rfl, ?_⟩
     refine sx_split 10 (todo' := [.inRegion (opsOf (cd54 [1, 1, 1, 0, 0, 0, 0, 1, 0, 0])) [4], .code (cd54 [1, 1, 1, 0, 0, 0, 0, 1, 0, 1]), .inBlock 2, .inBlock 1, .code (cd54 [1, 1, 1, 0, 0, 1]), .inLoop (cd54 [1, 1, 1, 0, 0]), .inBlock 0]) (us := [(4, .int .u8 t33), (5, .int .u8 t38), (25, .int .i64 t22), (26, .string a0), (27, .int .i64 (a0.size : Int))]) (d := 28) (t := (t22 == (a0.size : Int))) (by kernel_rfl) (fun h43 => ?_) (fun h44 => ?_)
     ·skip
      have hp45 := ite_t hp40 h43
      refine sx_run 8 (todo' := [.code (cd54 [1, 1, 1, 0, 0, 0, 0, 1, 0, 1, 0, 1]), .inBlock 2, .inBlock 1, .code (cd54 [1, 1, 1, 0, 0, 1]), .inLoop (cd54 [1, 1, 1, 0, 0]), .inBlock 0]) (us := [(24, .bool true), (29, .int .i64 t22), (2, .int .i64 t22)]) (by kernel_rfl) ?_
      refine runs_ret (fn := Tryz.f54) (v := .int .i64 t22) Tryz.func54 (by kernel_rfl) ?_
      have hr46 := (hq32 _ (Option.some.inj hp45))
      cases hr46
      exact hR _ _ ⟨rfl, hS42⟩
     ·skip
      have hp47 := ite_f hp40 h44
      refine sx_run 7 (todo' := [.inRegion (opsOf (cd54 [1, 1, 1, 0, 0, 0, 0, 1, 0, 1, 1, 0, 0])) [1, 2], .code (cd54 [1, 1, 1, 0, 0, 0, 0, 1, 0, 1, 1, 0, 1]), .code (cd54 [1, 1, 1, 0, 0, 0, 0, 1, 0, 1, 1, 1]), .inBlock 2, .inBlock 1, .code (cd54 [1, 1, 1, 0, 0, 1]), .inLoop (cd54 [1, 1, 1, 0, 0]), .inBlock 0]) (us := [(24, .bool false), (31, .int .u8 t33)]) (by kernel_rfl) ?_
      obtain ⟨t48, hr49, hp50⟩ := bind_some' hp47
      refine r_call1 (c := (cd54 [1, 1, 1, 0, 0, 0, 0, 1, 0, 1, 1, 0, 0])) (i := 1) (d := (some 32)) (g := 66) (args := #[.int .u8 t33]) (by kernel_rfl) (by kernel_rfl) (by kernel_rfl) (by kernel_rfl) (lexis_letter.ok t33 hS42 hr49) ?_
      rintro _ w51 ⟨rfl, hS52⟩
      refine ⟨.bool t48, rfl, ?_⟩
      refine sx_run 2 (todo' := [.code (cd54 [1, 1, 1, 0, 0, 0, 0, 1, 0, 1, 1, 0, 1]), .code (cd54 [1, 1, 1, 0, 0, 0, 0, 1, 0, 1, 1, 1]), .inBlock 2, .inBlock 1, .code (cd54 [1, 1, 1, 0, 0, 1]), .inLoop (cd54 [1, 1, 1, 0, 0]), .inBlock 0]) (us := [(30, .bool t48)]) (by kernel_rfl) ?_
      obtain ⟨v53, hv54, hp55⟩ := bind_some' hp50
      have J59 : ∀ (t56 : Bool) (he61 : t56 = v53) (l60 : List Value) (w57 : World) (hS58 : St w0 Z (fs) w57), Runs Tryz.prog (fx 54) [.code (cd54 [1, 1, 1, 0, 0, 0, 0, 1, 0, 1, 1, 1]), .inBlock 2, .inBlock 1, .code (cd54 [1, 1, 1, 0, 0, 1]), .inLoop (cd54 [1, 1, 1, 0, 0]), .inBlock 0] (fill [some (.string a0), none, none, some (.int .i64 t22), some (.int .u8 t33), some (.int .u8 t38), none, none, none, none, none, none, none, none, none, none, none, none, none, none, none, none, none, none, none, none, none, none, none, none, some (.bool t56), none, none, none, none, none, none, none, none, none, none, none, none, none, none, none, none, none, none, none, none, none] l60) w57 R := by
       intro t56 he61 l60 w57 hS58
       subst he61
       try dsimp only at hp55
       cases t56
       ·skip
        have hp62 := ite_f hp55 rfl
        refine sx_split 5 (todo' := [.inRegion (opsOf (cd54 [1, 1, 1, 0, 0, 0, 0, 1, 0, 1, 1, 1, 1, 0])) [2, 3, 4, 5, 6, 7, 8, 9, 10, 11, 12, 13, 14], .code (cd54 [1, 1, 1, 0, 0, 0, 0, 1, 0, 1, 1, 1, 1, 1]), .inBlock 2, .inBlock 1, .code (cd54 [1, 1, 1, 0, 0, 1]), .inLoop (cd54 [1, 1, 1, 0, 0]), .inBlock 0]) (us := [(38, .int .u8 t33)]) (d := 39) (t := (t33 == 43)) (by kernel_rfl) (fun h63 => ?_) (fun h64 => ?_)
        ·skip
         have hp65 := ite_t hp62 h63
         refine sx_run 6 (todo' := [.inRegion (opsOf (cd54 [1, 1, 1, 0, 0, 0, 0, 1, 0, 1, 1, 1, 1, 0])) [8, 9, 10, 11, 12, 13, 14], .code (cd54 [1, 1, 1, 0, 0, 0, 0, 1, 0, 1, 1, 1, 1, 1]), .inBlock 2, .inBlock 1, .code (cd54 [1, 1, 1, 0, 0, 1]), .inLoop (cd54 [1, 1, 1, 0, 0]), .inBlock 0]) (us := [(40, .bool true), (41, undef), (42, undef), (43, .bool true), (44, .bool true), (45, .int .u8 t38)]) (by kernel_rfl) ?_
         obtain ⟨t66, hr67, hp68⟩ := bind_some' hp65
         refine r_call1 (c := (cd54 [1, 1, 1, 0, 0, 0, 0, 1, 0, 1, 1, 1, 1, 0])) (i := 8) (d := (some 46)) (g := 66) (args := #[.int .u8 t38]) (by kernel_rfl) (by kernel_rfl) (by kernel_rfl) (by kernel_rfl) (lexis_letter.ok t38 hS58 hr67) ?_
         rintro _ w69 ⟨rfl, hS70⟩
         refine ⟨.bool t66, rfl, ?_⟩
         refine sx_run 1 (todo' := [.inRegion (opsOf (cd54 [1, 1, 1, 0, 0, 0, 0, 1, 0, 1, 1, 1, 1, 0])) [10, 11, 12, 13, 14], .code (cd54 [1, 1, 1, 0, 0, 0, 0, 1, 0, 1, 1, 1, 1, 1]), .inBlock 2, .inBlock 1, .code (cd54 [1, 1, 1, 0, 0, 1]), .inLoop (cd54 [1, 1, 1, 0, 0]), .inBlock 0]) (us := [(47, .bool t66)]) (by kernel_rfl) ?_
         cases t66
         ·skip
          have hp71 := ite_f hp68 rfl
          refine sx_run 1 (todo' := [.inRegion (opsOf (cd54 [1, 1, 1, 0, 0, 0, 0, 1, 0, 1, 1, 1, 1, 0])) [11, 12, 13, 14], .code (cd54 [1, 1, 1, 0, 0, 0, 0, 1, 0, 1, 1, 1, 1, 1]), .inBlock 2, .inBlock 1, .code (cd54 [1, 1, 1, 0, 0, 1]), .inLoop (cd54 [1, 1, 1, 0, 0]), .inBlock 0]) (us := [(48, .int .u8 t38)]) (by kernel_rfl) ?_
          obtain ⟨t72, hr73, hp74⟩ := bind_some' hp71
          refine r_call1 (c := (cd54 [1, 1, 1, 0, 0, 0, 0, 1, 0, 1, 1, 1, 1, 0])) (i := 11) (d := (some 49)) (g := 68) (args := #[.int .u8 t38]) (by kernel_rfl) (by kernel_rfl) (by kernel_rfl) (by kernel_rfl) (lexis_digit.ok t38 hS70 hr73) ?_
          rintro _ w75 ⟨rfl, hS76⟩
          refine ⟨.bool t72, rfl, ?_⟩
          refine sx_run 4 (todo' := [.code (cd54 [1, 1, 1, 0, 0, 0, 0, 1, 0, 1, 1, 1, 1, 1]), .inBlock 2, .inBlock 1, .code (cd54 [1, 1, 1, 0, 0, 1]), .inLoop (cd54 [1, 1, 1, 0, 0]), .inBlock 0]) (us := [(50, .bool t72), (51, .bool t72), (37, .bool t72)]) (by kernel_rfl) ?_
          cases t72
          ·skip
           have hp77 := ite_f hp74 rfl
           refine sx_run 6 (todo' := [.code (cd54 [1, 1, 1, 0, 0, 0, 0, 1, 0, 1, 1, 1, 1, 1, 1, 1]), .inBlock 2, .inBlock 1, .code (cd54 [1, 1, 1, 0, 0, 1]), .inLoop (cd54 [1, 1, 1, 0, 0]), .inBlock 0]) (us := [(23, .int .i64 t22), (2, .int .i64 t22)]) (by kernel_rfl) ?_
           refine runs_ret (fn := Tryz.f54) (v := .int .i64 t22) Tryz.func54 (by kernel_rfl) ?_
           have hr78 := (hq32 _ (Option.some.inj hp77))
           cases hr78
           exact hR _ _ ⟨rfl, hS76⟩
          ·skip
           have hp79 := ite_t hp74 rfl
           refine sx_run 9 (todo' := [.inLoop (cd54 [1, 1, 1, 0, 0]), .inBlock 0]) (us := [(14, .int .i64 t22), (15, .int .i64 (IntKind.i64.wrap (t22 + 1))), (3, .int .i64 (IntKind.i64.wrap (t22 + 1)))]) (by kernel_rfl) ?_
           refine sx_run 1 (todo' := [.code (cd54 [1, 1, 1, 0, 0]), .inLoop (cd54 [1, 1, 1, 0, 0]), .inBlock 0]) (us := []) (by kernel_rfl) ?_
           refine Runs.fill (m := [some (.string a0), none, none, some (.int .i64 (IntKind.i64.wrap (t22 + 1))), none, none, none, none, none, none, none, none, none, none, none, none, none, none, none, none, none, none, none, none, none, none, none, none, none, none, none, none, none, none, none, none, none, none, none, none, none, none, none, none, none, none, none, none, none, none, none, none]) (by kernel_rfl) ?_
           exact ih29 (IntKind.i64.wrap (t22 + 1)) _ hp79 he27 _ _ hS76
         ·skip
          have hp80 := ite_t hp68 rfl
          refine sx_run 15 (todo' := [.inLoop (cd54 [1, 1, 1, 0, 0]), .inBlock 0]) (us := [(48, undef), (49, undef), (50, .bool true), (51, .bool true), (37, .bool true), (14, .int .i64 t22), (15, .int .i64 (IntKind.i64.wrap (t22 + 1))), (3, .int .i64 (IntKind.i64.wrap (t22 + 1)))]) (by kernel_rfl) ?_
          refine sx_run 1 (todo' := [.code (cd54 [1, 1, 1, 0, 0]), .inLoop (cd54 [1, 1, 1, 0, 0]), .inBlock 0]) (us := []) (by kernel_rfl) ?_
          refine Runs.fill (m := [some (.string a0), none, none, some (.int .i64 (IntKind.i64.wrap (t22 + 1))), none, none, none, none, none, none, none, none, none, none, none, none, none, none, none, none, none, none, none, none, none, none, none, none, none, none, none, none, none, none, none, none, none, none, none, none, none, none, none, none, none, none, none, none, none, none, none, none]) (by kernel_rfl) ?_
          exact ih29 (IntKind.i64.wrap (t22 + 1)) _ hp80 he27 _ _ hS70
        ·skip
         have hp81 := ite_f hp62 h64
         refine sx_split 3 (todo' := [.inRegion (opsOf (cd54 [1, 1, 1, 0, 0, 0, 0, 1, 0, 1, 1, 1, 1, 0])) [5, 6, 7, 8, 9, 10, 11, 12, 13, 14], .code (cd54 [1, 1, 1, 0, 0, 0, 0, 1, 0, 1, 1, 1, 1, 1]), .inBlock 2, .inBlock 1, .code (cd54 [1, 1, 1, 0, 0, 1]), .inLoop (cd54 [1, 1, 1, 0, 0]), .inBlock 0]) (us := [(40, .bool false), (41, .int .u8 t33)]) (d := 42) (t := (t33 == 45)) (by kernel_rfl) (fun h82 => ?_) (fun h83 => ?_)
         ·skip
          have hp84 := ite_t hp81 h82
          refine sx_run 3 (todo' := [.inRegion (opsOf (cd54 [1, 1, 1, 0, 0, 0, 0, 1, 0, 1, 1, 1, 1, 0])) [8, 9, 10, 11, 12, 13, 14], .code (cd54 [1, 1, 1, 0, 0, 0, 0, 1, 0, 1, 1, 1, 1, 1]), .inBlock 2, .inBlock 1, .code (cd54 [1, 1, 1, 0, 0, 1]), .inLoop (cd54 [1, 1, 1, 0, 0]), .inBlock 0]) (us := [(43, .bool true), (44, .bool true), (45, .int .u8 t38)]) (by kernel_rfl) ?_
          obtain ⟨t85, hr86, hp87⟩ := bind_some' hp84
          refine r_call1 (c := (cd54 [1, 1, 1, 0, 0, 0, 0, 1, 0, 1, 1, 1, 1, 0])) (i := 8) (d := (some 46)) (g := 66) (args := #[.int .u8 t38]) (by kernel_rfl) (by kernel_rfl) (by kernel_rfl) (by kernel_rfl) (lexis_letter.ok t38 hS58 hr86) ?_
          rintro _ w88 ⟨rfl, hS89⟩
          refine ⟨.bool t85, rfl, ?_⟩
          refine sx_run 1 (todo' := [.inRegion (opsOf (cd54 [1, 1, 1, 0, 0, 0, 0, 1, 0, 1, 1, 1, 1, 0])) [10, 11, 12, 13, 14], .code (cd54 [1, 1, 1, 0, 0, 0, 0, 1, 0, 1, 1, 1, 1, 1]), .inBlock 2, .inBlock 1, .code (cd54 [1, 1, 1, 0, 0, 1]), .inLoop (cd54 [1, 1, 1, 0, 0]), .inBlock 0]) (us := [(47, .bool t85)]) (by kernel_rfl) ?_
          cases t85
          ·skip
           have hp90 := ite_f hp87 rfl
           refine sx_run 1 (todo' := [.inRegion (opsOf (cd54 [1, 1, 1, 0, 0, 0, 0, 1, 0, 1, 1, 1, 1, 0])) [11, 12, 13, 14], .code (cd54 [1, 1, 1, 0, 0, 0, 0, 1, 0, 1, 1, 1, 1, 1]), .inBlock 2, .inBlock 1, .code (cd54 [1, 1, 1, 0, 0, 1]), .inLoop (cd54 [1, 1, 1, 0, 0]), .inBlock 0]) (us := [(48, .int .u8 t38)]) (by kernel_rfl) ?_
           obtain ⟨t91, hr92, hp93⟩ := bind_some' hp90
           refine r_call1 (c := (cd54 [1, 1, 1, 0, 0, 0, 0, 1, 0, 1, 1, 1, 1, 0])) (i := 11) (d := (some 49)) (g := 68) (args := #[.int .u8 t38]) (by kernel_rfl) (by kernel_rfl) (by kernel_rfl) (by kernel_rfl) (lexis_digit.ok t38 hS89 hr92) ?_
           rintro _ w94 ⟨rfl, hS95⟩
           refine ⟨.bool t91, rfl, ?_⟩
           refine sx_run 4 (todo' := [.code (cd54 [1, 1, 1, 0, 0, 0, 0, 1, 0, 1, 1, 1, 1, 1]), .inBlock 2, .inBlock 1, .code (cd54 [1, 1, 1, 0, 0, 1]), .inLoop (cd54 [1, 1, 1, 0, 0]), .inBlock 0]) (us := [(50, .bool t91), (51, .bool t91), (37, .bool t91)]) (by kernel_rfl) ?_
           cases t91
           ·skip
            have hp96 := ite_f hp93 rfl
            refine sx_run 6 (todo' := [.code (cd54 [1, 1, 1, 0, 0, 0, 0, 1, 0, 1, 1, 1, 1, 1, 1, 1]), .inBlock 2, .inBlock 1, .code (cd54 [1, 1, 1, 0, 0, 1]), .inLoop (cd54 [1, 1, 1, 0, 0]), .inBlock 0]) (us := [(23, .int .i64 t22), (2, .int .i64 t22)]) (by kernel_rfl) ?_
            refine runs_ret (fn := Tryz.f54) (v := .int .i64 t22) Tryz.func54 (by kernel_rfl) ?_
            have hr97 := (hq32 _ (Option.some.inj hp96))
            cases hr97
            exact hR _ _ ⟨rfl, hS95⟩
           ·skip
            have hp98 := ite_t hp93 rfl
            refine sx_run 9 (todo' := [.inLoop (cd54 [1, 1, 1, 0, 0]), .inBlock 0]) (us := [(14, .int .i64 t22), (15, .int .i64 (IntKind.i64.wrap (t22 + 1))), (3, .int .i64 (IntKind.i64.wrap (t22 + 1)))]) (by kernel_rfl) ?_
            refine sx_run 1 (todo' := [.code (cd54 [1, 1, 1, 0, 0]), .inLoop (cd54 [1, 1, 1, 0, 0]), .inBlock 0]) (us := []) (by kernel_rfl) ?_
            refine Runs.fill (m := [some (.string a0), none, none, some (.int .i64 (IntKind.i64.wrap (t22 + 1))), none, none, none, none, none, none, none, none, none, none, none, none, none, none, none, none, none, none, none, none, none, none, none, none, none, none, none, none, none, none, none, none, none, none, none, none, none, none, none, none, none, none, none, none, none, none, none, none]) (by kernel_rfl) ?_
            exact ih29 (IntKind.i64.wrap (t22 + 1)) _ hp98 he27 _ _ hS95
          ·skip
           have hp99 := ite_t hp87 rfl
           refine sx_run 15 (todo' := [.inLoop (cd54 [1, 1, 1, 0, 0]), .inBlock 0]) (us := [(48, undef), (49, undef), (50, .bool true), (51, .bool true), (37, .bool true), (14, .int .i64 t22), (15, .int .i64 (IntKind.i64.wrap (t22 + 1))), (3, .int .i64 (IntKind.i64.wrap (t22 + 1)))]) (by kernel_rfl) ?_
           refine sx_run 1 (todo' := [.code (cd54 [1, 1, 1, 0, 0]), .inLoop (cd54 [1, 1, 1, 0, 0]), .inBlock 0]) (us := []) (by kernel_rfl) ?_
           refine Runs.fill (m := [some (.string a0), none, none, some (.int .i64 (IntKind.i64.wrap (t22 + 1))), none, none, none, none, none, none, none, none, none, none, none, none, none, none, none, none, none, none, none, none, none, none, none, none, none, none, none, none, none, none, none, none, none, none, none, none, none, none, none, none, none, none, none, none, none, none, none, none]) (by kernel_rfl) ?_
           exact ih29 (IntKind.i64.wrap (t22 + 1)) _ hp99 he27 _ _ hS89
         ·skip
          have hp100 := ite_f hp81 h83
          refine sx_run 17 (todo' := [.code (cd54 [1, 1, 1, 0, 0, 0, 0, 1, 0, 1, 1, 1, 1, 1, 1, 1]), .inBlock 2, .inBlock 1, .code (cd54 [1, 1, 1, 0, 0, 1]), .inLoop (cd54 [1, 1, 1, 0, 0]), .inBlock 0]) (us := [(43, .bool false), (44, .bool false), (45, undef), (46, undef), (47, undef), (48, undef), (49, undef), (50, undef), (51, .bool false), (37, .bool false), (23, .int .i64 t22), (2, .int .i64 t22)]) (by kernel_rfl) ?_
          refine runs_ret (fn := Tryz.f54) (v := .int .i64 t22) Tryz.func54 (by kernel_rfl) ?_
          have hr101 := (hq32 _ (Option.some.inj hp100))
          cases hr101
          exact hR _ _ ⟨rfl, hS58⟩
       ·skip
        have hp102 := ite_t hp55 rfl
        refine sx_run 9 (todo' := [.inLoop (cd54 [1, 1, 1, 0, 0]), .inBlock 0]) (us := [(14, .int .i64 t22), (15, .int .i64 (IntKind.i64.wrap (t22 + 1))), (3, .int .i64 (IntKind.i64.wrap (t22 + 1)))]) (by kernel_rfl) ?_
        refine sx_run 1 (todo' := [.code (cd54 [1, 1, 1, 0, 0]), .inLoop (cd54 [1, 1, 1, 0, 0]), .inBlock 0]) (us := []) (by kernel_rfl) ?_
        refine Runs.fill (m := [some (.string a0), none, none, some (.int .i64 (IntKind.i64.wrap (t22 + 1))), none, none, none, none, none, none, none, none, none, none, none, none, none, none, none, none, none, none, none, none, none, none, none, none, none, none, none, none, none, none, none, none, none, none, none, none, none, none, none, none, none, none, none, none, none, none, none, none]) (by kernel_rfl) ?_
        exact ih29 (IntKind.i64.wrap (t22 + 1)) _ hp102 he27 _ _ hS58
      cases t48
      ·skip
       have hp103 := ite_f hv54 rfl
       refine sx_run 4 (todo' := [.inRegion (opsOf (cd54 [1, 1, 1, 0, 0, 0, 0, 1, 0, 1, 1, 0, 1, 1, 0])) [1, 2], .code (cd54 [1, 1, 1, 0, 0, 0, 0, 1, 0, 1, 1, 0, 1, 1, 1]), .code (cd54 [1, 1, 1, 0, 0, 0, 0, 1, 0, 1, 1, 1]), .inBlock 2, .inBlock 1, .code (cd54 [1, 1, 1, 0, 0, 1]), .inLoop (cd54 [1, 1, 1, 0, 0]), .inBlock 0]) (us := [(33, .int .u8 t33)]) (by kernel_rfl) ?_
       obtain ⟨t104, hr105, hp106⟩ := bind_some' hp103
       refine r_call1 (c := (cd54 [1, 1, 1, 0, 0, 0, 0, 1, 0, 1, 1, 0, 1, 1, 0])) (i := 1) (d := (some 34)) (g := 68) (args := #[.int .u8 t33]) (by kernel_rfl) (by kernel_rfl) (by kernel_rfl) (by kernel_rfl) (lexis_digit.ok t33 hS52 hr105) ?_
       rintro _ w107 ⟨rfl, hS108⟩
       refine ⟨.bool t104, rfl, ?_⟩
       refine sx_run 2 (todo' := [.code (cd54 [1, 1, 1, 0, 0, 0, 0, 1, 0, 1, 1, 0, 1, 1, 1]), .code (cd54 [1, 1, 1, 0, 0, 0, 0, 1, 0, 1, 1, 1]), .inBlock 2, .inBlock 1, .code (cd54 [1, 1, 1, 0, 0, 1]), .inLoop (cd54 [1, 1, 1, 0, 0]), .inBlock 0]) (us := [(30, .bool t104)]) (by kernel_rfl) ?_
       cases t104
       ·skip
        have hp109 := ite_f hp106 rfl
        refine sx_split 4 (todo' := [.inRegion (opsOf (cd54 [1, 1, 1, 0, 0, 0, 0, 1, 0, 1, 1, 0, 1, 1, 1, 1])) [2], .code (cd54 [1, 1, 1, 0, 0, 0, 0, 1, 0, 1, 1, 1]), .inBlock 2, .inBlock 1, .code (cd54 [1, 1, 1, 0, 0, 1]), .inLoop (cd54 [1, 1, 1, 0, 0]), .inBlock 0]) (us := [(35, .int .u8 t33)]) (d := 36) (t := (t33 == 46)) (by kernel_rfl) (fun h110 => ?_) (fun h111 => ?_)
        ·skip
         have hp112 := ite_t hp109 h110
         refine sx_run 2 (todo' := [.code (cd54 [1, 1, 1, 0, 0, 0, 0, 1, 0, 1, 1, 1]), .inBlock 2, .inBlock 1, .code (cd54 [1, 1, 1, 0, 0, 1]), .inLoop (cd54 [1, 1, 1, 0, 0]), .inBlock 0]) (us := [(30, .bool true)]) (by kernel_rfl) ?_
         refine Runs.fill (m := [some (.string a0), none, none, some (.int .i64 t22), some (.int .u8 t33), some (.int .u8 t38), none, none, none, none, none, none, none, none, none, none, none, none, none, none, none, none, none, none, none, none, none, none, none, none, some (.bool true), none, none, none, none, none, none, none, none, none, none, none, none, none, none, none, none, none, none, none, none, none]) (by kernel_rfl) ?_
         exact J59 true (Option.some.inj hp112) _ _ hS108
        ·skip
         have hp113 := ite_f hp109 h111
         refine sx_run 2 (todo' := [.code (cd54 [1, 1, 1, 0, 0, 0, 0, 1, 0, 1, 1, 1]), .inBlock 2, .inBlock 1, .code (cd54 [1, 1, 1, 0, 0, 1]), .inLoop (cd54 [1, 1, 1, 0, 0]), .inBlock 0]) (us := [(30, .bool false)]) (by kernel_rfl) ?_
         refine Runs.fill (m := [some (.string a0), none, none, some (.int .i64 t22), some (.int .u8 t33), some (.int .u8 t38), none, none, none, none, none, none, none, none, none, none, none, none, none, none, none, none, none, none, none, none, none, none, none, none, some (.bool false), none, none, none, none, none, none, none, none, none, none, none, none, none, none, none, none, none, none, none, none, none]) (by kernel_rfl) ?_
         exact J59 false (Option.some.inj hp113) _ _ hS108
       ·skip
        have hp114 := ite_t hp106 rfl
        refine sx_run 2 (todo' := [.code (cd54 [1, 1, 1, 0, 0, 0, 0, 1, 0, 1, 1, 1]), .inBlock 2, .inBlock 1, .code (cd54 [1, 1, 1, 0, 0, 1]), .inLoop (cd54 [1, 1, 1, 0, 0]), .inBlock 0]) (us := []) (by kernel_rfl) ?_
        refine Runs.fill (m := [some (.string a0), none, none, some (.int .i64 t22), some (.int .u8 t33), some (.int .u8 t38), none, none, none, none, none, none, none, none, none, none, none, none, none, none, none, none, none, none, none, none, none, none, none, none, some (.bool true), none, none, none, none, none, none, none, none, none, none, none, none, none, none, none, none, none, none, none, none, none]) (by kernel_rfl) ?_
        exact J59 true (Option.some.inj hp114) _ _ hS108
      ·skip
       have hp115 := ite_t hv54 rfl
       refine sx_run 2 (todo' := [.code (cd54 [1, 1, 1, 0, 0, 0, 0, 1, 0, 1, 1, 1]), .inBlock 2, .inBlock 1, .code (cd54 [1, 1, 1, 0, 0, 1]), .inLoop (cd54 [1, 1, 1, 0, 0]), .inBlock 0]) (us := []) (by kernel_rfl) ?_
       refine Runs.fill (m := [some (.string a0), none, none, some (.int .i64 t22), some (.int .u8 t33), some (.int .u8 t38), none, none, none, none, none, none, none, none, none, none, none, none, none, none, none, none, none, none, none, none, none, none, none, none, some (.bool true), none, none, none, none, none, none, none, none, none, none, none, none, none, none, none, none, none, none, none, none, none]) (by kernel_rfl) ?_
       exact J59 true (Option.some.inj hp115) _ _ hS52
    refine Runs.fill (m := [some (.string a0), none, none, some (.int .i64 1), none, none, none, none, none, none, none, none, none, none, none, none, none, none, none, none, none, none, none, none, none, none, none, none, none, none, none, none, none, none, none, none, none, none, none, none, none, none, none, none, none, none, none, none, none, none, none, none]) (by kernel_rfl) ?_
    exact L31 1 _ hv19 rfl _ _ hS12

noncomputable def cd50 (p : List Nat) : Code := sub (bodyOf Tryz.f50) p
def lexis_Name.f (a0 : ByteArray) : Option Bool :=
  (if (!seq a0 (⟨#[]⟩ : ByteArray)) = true then (if (decide ((a0.size : Int) ≤ 64)) = true then (lexis_name.f a0 >>= (fun t7 => (if (t7 == (a0.size : Int)) = true then some (true) else some (false)))) else some (false)) else some (false))
set_option maxHeartbeats 16000000 in
theorem lexis_Name.ok (a0 : ByteArray) {w0 : World} {Z : Zm} {fs : List XObj} {w : World} (hS0 : St w0 Z (fs) w) {q0 : Bool} (hp0 : lexis_Name.f a0 = some q0) :
    Calls Tryz.prog 50 #[.string a0] w (fun e w' => e = .returned (.bool q0) ∧ St w0 Z (fs) w') := by
  refine calls_abs ?_; intro R hR
  unfold lexis_Name.f at hp0
  refine calls_of_runs (fn := Tryz.f50) (c := cd50 []) Tryz.func50 (by kernel_rfl) (al := [.string a0]) rfl (n := 16) rfl ?_
  refine sx_split 8 (todo' := [.inRegion (opsOf (cd50 [1, 0])) [2, 3, 4, 5, 6, 7, 8, 9, 10, 11, 12, 13, 14], .code (cd50 [1, 1])]) (us := [(2, .bool false), (3, .string a0)]) (d := 4) (t := (!seq a0 (⟨#[]⟩ : ByteArray))) (by kernel_rfl) (fun h1 => ?_) (fun h2 => ?_)
  ·skip
   have hp3 := ite_t hp0 h1
   refine sx_split 4 (todo' := [.inRegion (opsOf (cd50 [1, 0])) [6, 7, 8, 9, 10, 11, 12, 13, 14], .code (cd50 [1, 1])]) (us := [(5, .bool true), (6, .string a0), (7, .int .i64 (a0.size : Int))]) (d := 8) (t := (decide ((a0.size : Int) ≤ 64))) (by kernel_rfl) (fun h4 => ?_) (fun h5 => ?_)
   ·skip
    have hp6 := ite_t hp3 h4
    refine sx_run 3 (todo' := [.inRegion (opsOf (cd50 [1, 0])) [9, 10, 11, 12, 13, 14], .code (cd50 [1, 1])]) (us := [(9, .bool true), (10, .bool true), (11, .string a0)]) (by kernel_rfl) ?_
    obtain ⟨t7, hr8, hp9⟩ := bind_some' hp6
    refine r_call1 (c := (cd50 [1, 0])) (i := 9) (d := (some 12)) (g := 54) (args := #[.string a0]) (by kernel_rfl) (by kernel_rfl) (by kernel_rfl) (by kernel_rfl) (lexis_name.ok a0 hS0 hr8) ?_
    rintro _ w10 ⟨rfl, hS11⟩
    refine ⟨.int .i64 t7, rfl, ?_⟩
    refine sx_split 3 (todo' := [.inRegion (opsOf (cd50 [1, 0])) [13, 14], .code (cd50 [1, 1])]) (us := [(13, .string a0), (14, .int .i64 (a0.size : Int))]) (d := 15) (t := (t7 == (a0.size : Int))) (by kernel_rfl) (fun h12 => ?_) (fun h13 => ?_)
    ·skip
     have hp14 := ite_t hp9 h12
     refine sx_run 3 (todo' := [.code (cd50 [1, 1])]) (us := [(16, .bool true), (2, .bool true)]) (by kernel_rfl) ?_
     refine runs_ret (fn := Tryz.f50) (v := .bool true) Tryz.func50 (by kernel_rfl) ?_
     have hr15 := (Option.some.inj hp14)
     cases hr15
     exact hR _ _ ⟨rfl, hS11⟩
    ·skip
     have hp16 := ite_f hp9 h13
     refine sx_run 3 (todo' := [.code (cd50 [1, 1])]) (us := [(16, .bool false), (2, .bool false)]) (by kernel_rfl) ?_
     refine runs_ret (fn := Tryz.f50) (v := .bool false) Tryz.func50 (by kernel_rfl) ?_
     have hr17 := (Option.some.inj hp16)
     cases hr17
     exact hR _ _ ⟨rfl, hS11⟩
   ·skip
    have hp18 := ite_f hp3 h5
    refine sx_run 10 (todo' := [.code (cd50 [1, 1])]) (us := [(9, .bool false), (10, .bool false), (11, undef), (12, undef), (13, undef), (14, undef), (15, undef), (16, .bool false), (2, .bool false)]) (by kernel_rfl) ?_
    refine runs_ret (fn := Tryz.f50) (v := .bool false) Tryz.func50 (by kernel_rfl) ?_
    have hr19 := (Option.some.inj hp18)
    cases hr19
    exact hR _ _ ⟨rfl, hS0⟩
  ·skip
   have hp20 := ite_f hp0 h2
   refine sx_run 14 (todo' := [.code (cd50 [1, 1])]) (us := [(5, .bool false), (6, undef), (7, undef), (8, undef), (9, .bool false), (10, .bool false), (11, undef), (12, undef), (13, undef), (14, undef), (15, undef), (16, .bool false), (2, .bool false)]) (by kernel_rfl) ?_
   refine runs_ret (fn := Tryz.f50) (v := .bool false) Tryz.func50 (by kernel_rfl) ?_
   have hr21 := (Option.some.inj hp20)
   cases hr21
   exact hR _ _ ⟨rfl, hS0⟩

noncomputable def cd47 (p : List Nat) : Code := sub (bodyOf Tryz.f47) p
def cond_reader__name.f (a0v : cond_reader) : Option (Sum PErr (ByteArray × Int × api_Token)) :=
  (cond_reader__next.f (⟨a0v.l, a0v.at_, a0v.last, a0v.depth, a0v.c⟩ : cond_reader) >>= (fun (t1, t2) => (if (!t2) = true then (cond_reader__syntax.f (⟨a0v.l, a0v.at_, a0v.last, a0v.depth, a0v.c⟩ : cond_reader) >>= (fun | .inl pe21 => some (.inl pe21) | .inr _ => none)) else (if (t1.Kind != 1) = true then (cond_reader__syntax.f (⟨a0v.l, a0v.at_, a0v.last, a0v.depth, a0v.c⟩ : cond_reader) >>= (fun | .inl pe39 => some (.inl pe39) | .inr _ => none)) else (lexis_Name.f t1.Text >>= (fun t51 => (if (!t51) = true then (cond_reader__syntax.f (⟨a0v.l, a0v.at_, a0v.last, a0v.depth, a0v.c⟩ : cond_reader) >>= (fun | .inl pe62 => some (.inl pe62) | .inr _ => none)) else (cond_reader__take.f (⟨a0v.l, a0v.at_, a0v.last, a0v.depth, a0v.c⟩ : cond_reader) >>= (fun (t74, t75, t76) => some (.inr (t74.Text, t75, t76)))))))))))
set_option maxHeartbeats 16000000 in
theorem cond_reader__name.ok (a0v : cond_reader) (ba0 : Nat) (Aa0v_0 : Option Addr) (ca0v_0 : Nat) (Aa0v_4 : Option Addr) (ca0v_4 : Nat) {w0 : World} {Z : Zm} {fs : List XObj} {w : World} (hS0 : St w0 Z (xblk ba0 44 ([.slice Aa0v_0 a0v.l.length ca0v_0] ++ [.int .i64 a0v.at_] ++ (enc_api_Token a0v.last) ++ [.int .i64 a0v.depth] ++ [.slice Aa0v_4 a0v.c.length ca0v_4]) :: fs) w) (ha0v_0 : SlZ (flat enc_api_Token) 7 Z Aa0v_0 ca0v_0 a0v.l) (ha0v_4 : SlZ (flat enc_api_Node) 6 Z Aa0v_4 ca0v_4 a0v.c) {qr : Sum PErr (ByteArray × Int × api_Token)} (hp0 : cond_reader__name.f a0v = some qr) :
    Calls Tryz.prog 47 #[.pointer (some ⟨ba0, 0, none⟩)] w (fun e w' => PanQ (fun p => ∃ (v : Value) (Z' : Zm), Zm.Le Z Z' ∧ e = .panicked [{ v := v, recovered := false }] ∧ St w0 Z' fs w' ∧ RepE 39 40 Z' v p) (fun q => e = .returned (.string q.1) ∧ St w0 Z (xblk ba0 44 ([.slice Aa0v_0 a0v.l.length ca0v_0] ++ [.int .i64 q.2.1] ++ (enc_api_Token q.2.2) ++ [.int .i64 a0v.depth] ++ [.slice Aa0v_4 a0v.c.length ca0v_4]) :: fs) w') qr) := by
  refine calls_abs ?_; intro R hR
  unfold cond_reader__name.f at hp0
  refine calls_of_runs (fn := Tryz.f47) (c := cd47 []) Tryz.func47 (by kernel_rfl) (al := [.pointer (some ⟨ba0, 0, none⟩)]) rfl (n := 27) rfl ?_
  refine sx_run 7 (todo' := [.inRegion (opsOf (cd47 [1, 0])) [1, 2, 3, 4, 5, 6, 7], .code (cd47 [1, 1])]) (us := [(2, .string (⟨#[]⟩ : ByteArray)), (6, .pointer (some ⟨ba0, 0, none⟩))]) (by kernel_rfl) ?_
  obtain ⟨⟨t1, t2⟩, hr3, hp4⟩ := bind_some' hp0
  try dsimp only at hp4
  refine r_call1 (c := (cd47 [1, 0])) (i := 1) (d := (some 7)) (g := 42) (args := #[.pointer (some ⟨ba0, 0, none⟩)]) (by kernel_rfl) (by kernel_rfl) (by kernel_rfl) (by kernel_rfl) (cond_reader__next.ok (⟨a0v.l, a0v.at_, a0v.last, a0v.depth, a0v.c⟩ : cond_reader) ba0 Aa0v_0 ca0v_0 Aa0v_4 ca0v_4 hS0 ha0v_0 ha0v_4 hr3) ?_
  rintro _ w7 ⟨rfl, hS8⟩
  refine ⟨.tuple #[.agg (enc_api_Token t1).toArray, .bool t2], rfl, ?_⟩
  refine sx_run 3 (todo' := [.inRegion (opsOf (cd47 [1, 0])) [5, 6, 7], .code (cd47 [1, 1])]) (us := [(5, .tuple #[.agg (enc_api_Token t1).toArray, .bool t2]), (8, .agg (enc_api_Token t1).toArray), (9, .bool t2)]) (by kernel_rfl) ?_
  refine r_alloc (c := (cd47 [1, 0])) (i := 5) (d := (some 3)) (ty := 0) (z := .agg (enc_api_Token (⟨0, (⟨#[]⟩ : ByteArray), 0, 0, 0, 0, 0⟩ : api_Token)).toArray) (t := 24) (cs := enc_api_Token (⟨0, (⟨#[]⟩ : ByteArray), 0, 0, 0, 0, 0⟩ : api_Token)) hS8 (by kernel_rfl) (by kernel_rfl) (by kernel_rfl) (by kernel_rfl) ?_
  intro b9 w10 hS11
  refine r_store (c := (cd47 [1, 0])) (i := 6) (d := none) (ty := 0) (t := 24) (x := (.tmp 3)) (y := (.tmp 8)) (b := b9) (o := 0) (e := 24) (cs := enc_api_Token (⟨0, (⟨#[]⟩ : ByteArray), 0, 0, 0, 0, 0⟩ : api_Token)) (v := .agg (enc_api_Token t1).toArray) (vs := enc_api_Token t1) (cs' := enc_api_Token t1) hS11 (by kernel_rfl) (by kernel_rfl) (by kernel_rfl) (by kernel_rfl) (by kernel_rfl) (by kernel_rfl) (one_api_Token _) (Nat.le_of_ble_eq_true (by kernel_rfl)) (by kernel_rfl) ?_
  intro w13 hS14
  refine sx_split 7 (todo' := [.inRegion (opsOf (cd47 [1, 1, 0, 0])) [2, 3, 4, 5, 6, 7, 8, 9, 10, 11, 12], .code (cd47 [1, 1, 0, 1]), .code (cd47 [1, 1, 1])]) (us := [(4, .bool t2), (10, .bool t2)]) (d := 11) (t := (!t2)) (by kernel_rfl) (fun h15 => ?_) (fun h16 => ?_)
  ·skip
   have hp17 := ite_t hp4 h15
   refine sx_run 15 (todo' := [.inRegion (opsOf (cd47 [1, 1, 0, 1, 0])) [1], .code (cd47 [1, 1, 1])]) (us := [(12, .bool true), (13, undef), (14, undef), (15, undef), (16, .bool true), (17, .bool true), (18, undef), (19, undef), (20, undef), (21, undef), (22, .bool true), (23, .pointer (some ⟨ba0, 0, none⟩))]) (by kernel_rfl) ?_
   obtain ⟨q20, hr18, hp19⟩ := bind_some' hp17
   rcases q20 with pe21 | _
   ·skip
    try dsimp only at hp19
    have hS22 := hS14.pick1
    refine r_callX (c := (cd47 [1, 1, 0, 1, 0])) (i := 1) (d := (some 24)) (g := 40) (args := #[.pointer (some ⟨ba0, 0, none⟩)]) (by kernel_rfl) (by kernel_rfl) (by kernel_rfl) (by kernel_rfl) (cond_reader__syntax.ok (⟨a0v.l, a0v.at_, a0v.last, a0v.depth, a0v.c⟩ : cond_reader) ba0 Aa0v_0 ca0v_0 Aa0v_4 ca0v_4 hS22 ha0v_0 ha0v_4 hr18) ?_
    rintro _ w28 ⟨v23, Z24, hz25, rfl, hS26, he27⟩
    refine ⟨_, rfl, ?_⟩
    have hS30 := hS26.drop
    refine raised_fx Tryz.func47 ?_
    have hr31 := (Option.some.inj hp19)
    cases hr31
    exact hR _ _ (panq_l ⟨v23, Z24, hz25, rfl, hS30, he27⟩)
   ·skip
    try dsimp only at hp19
    cases hp19
  ·skip
   have hp32 := ite_f hp4 h16
   refine sx_run 2 (todo' := [.inRegion (opsOf (cd47 [1, 1, 0, 0])) [4, 5, 6, 7, 8, 9, 10, 11, 12], .code (cd47 [1, 1, 0, 1]), .code (cd47 [1, 1, 1])]) (us := [(12, .bool false), (13, .pointer (some ⟨b9, 0, none⟩))]) (by kernel_rfl) ?_
   refine r_load (c := (cd47 [1, 1, 0, 0])) (i := 4) (d := (some 14)) (ty := 3) (t := 3) (x := (.tmp 13)) (p := ⟨b9, 0, none⟩) (v := .int .i64 t1.Kind) (by kernel_rfl) (by kernel_rfl) (by kernel_rfl) (loads_at 0 (hS14.blk 0 rfl) (by kernel_rfl) (by kernel_rfl)) ?_
   refine sx_split 1 (todo' := [.inRegion (opsOf (cd47 [1, 1, 0, 0])) [6, 7, 8, 9, 10, 11, 12], .code (cd47 [1, 1, 0, 1]), .code (cd47 [1, 1, 1])]) (us := []) (d := 15) (t := (t1.Kind != 1)) (by kernel_rfl) (fun h33 => ?_) (fun h34 => ?_)
   ·skip
    have hp35 := ite_t hp32 h33
    refine sx_run 11 (todo' := [.inRegion (opsOf (cd47 [1, 1, 0, 1, 0])) [1], .code (cd47 [1, 1, 1])]) (us := [(16, .bool true), (17, .bool true), (18, undef), (19, undef), (20, undef), (21, undef), (22, .bool true), (23, .pointer (some ⟨ba0, 0, none⟩))]) (by kernel_rfl) ?_
    obtain ⟨q38, hr36, hp37⟩ := bind_some' hp35
    rcases q38 with pe39 | _
    ·skip
     try dsimp only at hp37
     have hS40 := hS14.pick1
     refine r_callX (c := (cd47 [1, 1, 0, 1, 0])) (i := 1) (d := (some 24)) (g := 40) (args := #[.pointer (some ⟨ba0, 0, none⟩)]) (by kernel_rfl) (by kernel_rfl) (by kernel_rfl) (by kernel_rfl) (cond_reader__syntax.ok (⟨a0v.l, a0v.at_, a0v.last, a0v.depth, a0v.c⟩ : cond_reader) ba0 Aa0v_0 ca0v_0 Aa0v_4 ca0v_4 hS40 ha0v_0 ha0v_4 hr36) ?_
     rintro _ w46 ⟨v41, Z42, hz43, rfl, hS44, he45⟩
     refine ⟨_, rfl, ?_⟩
     have hS48 := hS44.drop
     refine raised_fx Tryz.func47 ?_
     have hr49 := (Option.some.inj hp37)
     cases hr49
     exact hR _ _ (panq_l ⟨v41, Z42, hz43, rfl, hS48, he45⟩)
    ·skip
     try dsimp only at hp37
     cases hp37
   ·skip
    have hp50 := ite_f hp32 h34
    refine sx_run 3 (todo' := [.inRegion (opsOf (cd47 [1, 1, 0, 0])) [9, 10, 11, 12], .code (cd47 [1, 1, 0, 1]), .code (cd47 [1, 1, 1])]) (us := [(16, .bool false), (17, .bool false), (18, .pointer (some ⟨b9, 1, none⟩))]) (by kernel_rfl) ?_
    refine r_load (c := (cd47 [1, 1, 0, 0])) (i := 9) (d := (some 19)) (ty := 9) (t := 9) (x := (.tmp 18)) (p := ⟨b9, 1, none⟩) (v := .string t1.Text) (by kernel_rfl) (by kernel_rfl) (by kernel_rfl) (loads_at 1 (hS14.blk 0 rfl) (by kernel_rfl) (by kernel_rfl)) ?_
    obtain ⟨t51, hr52, hp53⟩ := bind_some' hp50
    refine r_call1 (c := (cd47 [1, 1, 0, 0])) (i := 10) (d := (some 20)) (g := 50) (args := #[.string t1.Text]) (by kernel_rfl) (by kernel_rfl) (by kernel_rfl) (by kernel_rfl) (lexis_Name.ok t1.Text hS14 hr52) ?_
    rintro _ w54 ⟨rfl, hS55⟩
    refine ⟨.bool t51, rfl, ?_⟩
    refine sx_split 1 (todo' := [.inRegion (opsOf (cd47 [1, 1, 0, 0])) [12], .code (cd47 [1, 1, 0, 1]), .code (cd47 [1, 1, 1])]) (us := []) (d := 21) (t := (!t51)) (by kernel_rfl) (fun h56 => ?_) (fun h57 => ?_)
    ·skip
     have hp58 := ite_t hp53 h56
     refine sx_run 5 (todo' := [.inRegion (opsOf (cd47 [1, 1, 0, 1, 0])) [1], .code (cd47 [1, 1, 1])]) (us := [(22, .bool true), (23, .pointer (some ⟨ba0, 0, none⟩))]) (by kernel_rfl) ?_
     obtain ⟨q61, hr59, hp60⟩ := bind_some' hp58
     rcases q61 with pe62 | _
     ·skip
      try dsimp only at hp60
      have hS63 := hS55.pick1
      refine r_callX (c := (cd47 [1, 1, 0, 1, 0])) (i := 1) (d := (some 24)) (g := 40) (args := #[.pointer (some ⟨ba0, 0, none⟩)]) (by kernel_rfl) (by kernel_rfl) (by kernel_rfl) (by kernel_rfl) (cond_reader__syntax.ok (⟨a0v.l, a0v.at_, a0v.last, a0v.depth, a0v.c⟩ : cond_reader) ba0 Aa0v_0 ca0v_0 Aa0v_4 ca0v_4 hS63 ha0v_0 ha0v_4 hr59) ?_
      rintro _ w69 ⟨v64, Z65, hz66, rfl, hS67, he68⟩
      refine ⟨_, rfl, ?_⟩
      have hS71 := hS67.drop
      refine raised_fx Tryz.func47 ?_
      have hr72 := (Option.some.inj hp60)
      cases hr72
      exact hR _ _ (panq_l ⟨v64, Z65, hz66, rfl, hS71, he68⟩)
     ·skip
      try dsimp only at hp60
      cases hp60
    ·skip
     have hp73 := ite_f hp53 h57
     refine sx_run 7 (todo' := [.inRegion (opsOf (cd47 [1, 1, 1, 0])) [1, 2, 3], .code (cd47 [1, 1, 1, 1])]) (us := [(22, .bool false), (25, .pointer (some ⟨ba0, 0, none⟩))]) (by kernel_rfl) ?_
     obtain ⟨⟨t74, t75, t76⟩, hr77, hp78⟩ := bind_some' hp73
     try dsimp only at hp78
     have hS79 := hS55.pick1
     refine r_call1 (c := (cd47 [1, 1, 1, 0])) (i := 1) (d := (some 26)) (g := 25) (args := #[.pointer (some ⟨ba0, 0, none⟩)]) (by kernel_rfl) (by kernel_rfl) (by kernel_rfl) (by kernel_rfl) (cond_reader__take.ok (⟨a0v.l, a0v.at_, a0v.last, a0v.depth, a0v.c⟩ : cond_reader) ba0 Aa0v_0 ca0v_0 Aa0v_4 ca0v_4 hS79 ha0v_0 ha0v_4 hr77) ?_
     rintro _ w80 ⟨rfl, hS81⟩
     refine ⟨.agg (enc_api_Token t74).toArray, rfl, ?_⟩
     refine sx_run 3 (todo' := [.code (cd47 [1, 1, 1, 1])]) (us := [(27, .string t74.Text), (2, .string t74.Text)]) (by kernel_rfl) ?_
     have hS82 := hS81.pick1
     have hS83 := hS82.drop
     refine runs_ret (fn := Tryz.f47) (v := .string t74.Text) Tryz.func47 (by kernel_rfl) ?_
     have hr84 := (Option.some.inj hp78)
     cases hr84
     exact hR _ _ (panq_r ⟨rfl, hS83⟩)

noncomputable def cd35 (p : List Nat) : Code := sub (bodyOf Tryz.f35) p
def cond_reader__sign.f (a0v : cond_reader) (a1 : ByteArray) : Option (Sum PErr (Int × api_Token)) :=
  (cond_reader__sees.f (⟨a0v.l, a0v.at_, a0v.last, a0v.depth, a0v.c⟩ : cond_reader) 0 4 a1 >>= (fun t1 => (if (!t1) = true then (cond_reader__syntax.f (⟨a0v.l, a0v.at_, a0v.last, a0v.depth, a0v.c⟩ : cond_reader) >>= (fun | .inl pe14 => some (.inl pe14) | .inr _ => none)) else (cond_reader__take.f (⟨a0v.l, a0v.at_, a0v.last, a0v.depth, a0v.c⟩ : cond_reader) >>= (fun (t24, t25, t26) => some (.inr (t25, t26)))))))
set_option maxHeartbeats 16000000 in
theorem cond_reader__sign.ok (a0v : cond_reader) (a1 : ByteArray) (ba0 : Nat) (Aa0v_0 : Option Addr) (ca0v_0 : Nat) (Aa0v_4 : Option Addr) (ca0v_4 : Nat) {w0 : World} {Z : Zm} {fs : List XObj} {w : World} (hS0 : St w0 Z (xblk ba0 44 ([.slice Aa0v_0 a0v.l.length ca0v_0] ++ [.int .i64 a0v.at_] ++ (enc_api_Token a0v.last) ++ [.int .i64 a0v.depth] ++ [.slice Aa0v_4 a0v.c.length ca0v_4]) :: fs) w) (ha0v_0 : SlZ (flat enc_api_Token) 7 Z Aa0v_0 ca0v_0 a0v.l) (ha0v_4 : SlZ (flat enc_api_Node) 6 Z Aa0v_4 ca0v_4 a0v.c) {qr : Sum PErr (Int × api_Token)} (hp0 : cond_reader__sign.f a0v a1 = some qr) :
    Calls Tryz.prog 35 #[.pointer (some ⟨ba0, 0, none⟩), .string a1] w (fun e w' => PanQ (fun p => ∃ (v : Value) (Z' : Zm), Zm.Le Z Z' ∧ e = .panicked [{ v := v, recovered := false }] ∧ St w0 Z' fs w' ∧ RepE 39 40 Z' v p) (fun q => e = .returned (.tuple #[]) ∧ St w0 Z (xblk ba0 44 ([.slice Aa0v_0 a0v.l.length ca0v_0] ++ [.int .i64 q.1] ++ (enc_api_Token q.2) ++ [.int .i64 a0v.depth] ++ [.slice Aa0v_4 a0v.c.length ca0v_4]) :: fs) w') qr) := by
  refine calls_abs ?_; intro R hR
  unfold cond_reader__sign.f at hp0
  refine calls_of_runs (fn := Tryz.f35) (c := cd35 []) Tryz.func35 (by kernel_rfl) (al := [.pointer (some ⟨ba0, 0, none⟩), .string a1]) rfl (n := 10) rfl ?_
  refine sx_run 5 (todo' := [.inRegion (opsOf (cd35 [0, 0])) [2, 3], .code (cd35 [0, 1]), .code (cd35 [1])]) (us := [(4, .pointer (some ⟨ba0, 0, none⟩)), (5, .string a1)]) (by kernel_rfl) ?_
  obtain ⟨t1, hr2, hp3⟩ := bind_some' hp0
  refine r_call1 (c := (cd35 [0, 0])) (i := 2) (d := (some 6)) (g := 24) (args := #[.pointer (some ⟨ba0, 0, none⟩), .int .i64 0, .int .i64 4, .string a1]) (by kernel_rfl) (by kernel_rfl) (by kernel_rfl) (by kernel_rfl) (cond_reader__sees.ok (⟨a0v.l, a0v.at_, a0v.last, a0v.depth, a0v.c⟩ : cond_reader) 0 4 a1 ba0 Aa0v_0 ca0v_0 Aa0v_4 ca0v_4 hS0 ha0v_0 ha0v_4 hr2) ?_
  rintro _ w6 ⟨rfl, hS7⟩
  refine ⟨.bool t1, rfl, ?_⟩
  refine sx_split 1 (todo' := [.inRegion (opsOf (cd35 [0, 0])) [], .code (cd35 [0, 1]), .code (cd35 [1])]) (us := []) (d := 7) (t := (!t1)) (by kernel_rfl) (fun h8 => ?_) (fun h9 => ?_)
  ·skip
   have hp10 := ite_t hp3 h8
   refine sx_run 4 (todo' := [.inRegion (opsOf (cd35 [0, 1, 0])) [1], .code (cd35 [1])]) (us := [(8, .pointer (some ⟨ba0, 0, none⟩))]) (by kernel_rfl) ?_
   obtain ⟨q13, hr11, hp12⟩ := bind_some' hp10
   rcases q13 with pe14 | _
   ·skip
    try dsimp only at hp12
    refine r_callX (c := (cd35 [0, 1, 0])) (i := 1) (d := (some 9)) (g := 40) (args := #[.pointer (some ⟨ba0, 0, none⟩)]) (by kernel_rfl) (by kernel_rfl) (by kernel_rfl) (by kernel_rfl) (cond_reader__syntax.ok (⟨a0v.l, a0v.at_, a0v.last, a0v.depth, a0v.c⟩ : cond_reader) ba0 Aa0v_0 ca0v_0 Aa0v_4 ca0v_4 hS7 ha0v_0 ha0v_4 hr11) ?_
    rintro _ w20 ⟨v15, Z16, hz17, rfl, hS18, he19⟩
    refine ⟨_, rfl, ?_⟩
    refine raised_fx Tryz.func35 ?_
    have hr22 := (Option.some.inj hp12)
    cases hr22
    exact hR _ _ (panq_l ⟨v15, Z16, hz17, rfl, hS18, he19⟩)
   ·skip
    try dsimp only at hp12
    cases hp12
  ·skip
   have hp23 := ite_f hp3 h9
   refine sx_run 5 (todo' := [.inRegion (opsOf (cd35 [1])) [1]]) (us := [(10, .pointer (some ⟨ba0, 0, none⟩))]) (by kernel_rfl) ?_
   obtain ⟨⟨t24, t25, t26⟩, hr27, hp28⟩ := bind_some' hp23
   try dsimp only at hp28
   refine r_call1 (c := (cd35 [1])) (i := 1) (d := (some 11)) (g := 25) (args := #[.pointer (some ⟨ba0, 0, none⟩)]) (by kernel_rfl) (by kernel_rfl) (by kernel_rfl) (by kernel_rfl) (cond_reader__take.ok (⟨a0v.l, a0v.at_, a0v.last, a0v.depth, a0v.c⟩ : cond_reader) ba0 Aa0v_0 ca0v_0 Aa0v_4 ca0v_4 hS7 ha0v_0 ha0v_4 hr27) ?_
   rintro _ w29 ⟨rfl, hS30⟩
   refine ⟨.agg (enc_api_Token t24).toArray, rfl, ?_⟩
   refine sx_run 1 (todo' := []) (us := []) (by kernel_rfl) ?_
   refine runs_end (fn := Tryz.f35) (v := .tuple #[]) Tryz.func35 (by kernel_rfl) ?_
   have hr31 := (Option.some.inj hp28)
   cases hr31
   exact hR _ _ (panq_r ⟨rfl, hS30⟩)

noncomputable def cd48 (p : List Nat) : Code := sub (bodyOf Tryz.f48) p
def cond_thread.f (a0 : ByteArray) : Option (Int × Bool) :=
  (if (seq a0 (⟨#[]⟩ : ByteArray)) = true then some ((0, false)) else (if (decide ((a0.size : Int) > 4)) = true then some ((0, false)) else (strings_Trim.f a0 (⟨#[48, 49, 50, 51, 52, 53, 54, 55, 56, 57]⟩ : ByteArray) >>= (fun t11 => (if (!seq t11 (⟨#[]⟩ : ByteArray)) = true then some ((0, false)) else (strconv_Atoi.f a0 >>= (fun t21 => some ((t21, true)))))))))
set_option maxHeartbeats 16000000 in
theorem cond_thread.ok (a0 : ByteArray) {w0 : World} {Z : Zm} {fs : List XObj} {w : World} (hS0 : St w0 Z (fs) w) (hE : Env Z) {q0 : Int} {q1 : Bool} (hp0 : cond_thread.f a0 = some (q0, q1)) :
    Calls Tryz.prog 48 #[.string a0] w (fun e w' => e = .returned (.tuple #[.int .i64 q0, .bool q1]) ∧ St w0 Z (fs) w') := by
  refine calls_abs ?_; intro R hR
  unfold cond_thread.f at hp0
  refine calls_of_runs (fn := Tryz.f48) (c := cd48 []) Tryz.func48 (by kernel_rfl) (al := [.string a0]) rfl (n := 23) rfl ?_
  refine sx_split 10 (todo' := [.inRegion (opsOf (cd48 [1, 0, 0])) [2, 3, 4, 5, 6, 7, 8, 9, 10, 11], .code (cd48 [1, 0, 1]), .code (cd48 [1, 1])]) (us := [(2, .int .i64 0), (3, .bool false), (6, .string a0)]) (d := 7) (t := (seq a0 (⟨#[]⟩ : ByteArray))) (by kernel_rfl) (fun h1 => ?_) (fun h2 => ?_)
  ·skip
   have hp3 := ite_t hp0 h1
   refine sx_run 17 (todo' := [.code (cd48 [1, 0, 1, 0, 1]), .code (cd48 [1, 1])]) (us := [(8, .bool true), (9, undef), (10, undef), (11, undef), (12, .bool true), (13, .bool true), (14, undef), (15, undef), (16, undef), (17, .bool true), (2, .int .i64 0), (3, .bool false)]) (by kernel_rfl) ?_
   refine runs_ret (fn := Tryz.f48) (v := .tuple #[.int .i64 0, .bool false]) Tryz.func48 (by kernel_rfl) ?_
   have hr4 := (Option.some.inj hp3)
   cases hr4
   exact hR _ _ ⟨rfl, hS0⟩
  ·skip
   have hp5 := ite_f hp0 h2
   refine sx_split 4 (todo' := [.inRegion (opsOf (cd48 [1, 0, 0])) [6, 7, 8, 9, 10, 11], .code (cd48 [1, 0, 1]), .code (cd48 [1, 1])]) (us := [(8, .bool false), (9, .string a0), (10, .int .i64 (a0.size : Int))]) (d := 11) (t := (decide ((a0.size : Int) > 4))) (by kernel_rfl) (fun h6 => ?_) (fun h7 => ?_)
   ·skip
    have hp8 := ite_t hp5 h6
    refine sx_run 13 (todo' := [.code (cd48 [1, 0, 1, 0, 1]), .code (cd48 [1, 1])]) (us := [(12, .bool true), (13, .bool true), (14, undef), (15, undef), (16, undef), (17, .bool true), (2, .int .i64 0), (3, .bool false)]) (by kernel_rfl) ?_
    refine runs_ret (fn := Tryz.f48) (v := .tuple #[.int .i64 0, .bool false]) Tryz.func48 (by kernel_rfl) ?_
    have hr9 := (Option.some.inj hp8)
    cases hr9
    exact hR _ _ ⟨rfl, hS0⟩
   ·skip
    have hp10 := ite_f hp5 h7
    refine sx_run 3 (todo' := [.inRegion (opsOf (cd48 [1, 0, 0])) [9, 10, 11], .code (cd48 [1, 0, 1]), .code (cd48 [1, 1])]) (us := [(12, .bool false), (13, .bool false), (14, .string a0)]) (by kernel_rfl) ?_
    obtain ⟨t11, hr12, hp13⟩ := bind_some' hp10
    refine r_call1 (c := (cd48 [1, 0, 0])) (i := 9) (d := (some 15)) (g := 51) (args := #[.string a0, .string (⟨#[48, 49, 50, 51, 52, 53, 54, 55, 56, 57]⟩ : ByteArray)]) (by kernel_rfl) (by kernel_rfl) (by kernel_rfl) (by kernel_rfl) (strings_Trim.ok a0 (⟨#[48, 49, 50, 51, 52, 53, 54, 55, 56, 57]⟩ : ByteArray) hS0 hE hr12) ?_
    rintro _ w14 ⟨rfl, hS15⟩
    refine ⟨.string t11, rfl, ?_⟩
    refine sx_split 1 (todo' := [.inRegion (opsOf (cd48 [1, 0, 0])) [11], .code (cd48 [1, 0, 1]), .code (cd48 [1, 1])]) (us := []) (d := 16) (t := (!seq t11 (⟨#[]⟩ : ByteArray))) (by kernel_rfl) (fun h16 => ?_) (fun h17 => ?_)
    ·skip
     have hp18 := ite_t hp13 h16
     refine sx_run 8 (todo' := [.code (cd48 [1, 0, 1, 0, 1]), .code (cd48 [1, 1])]) (us := [(17, .bool true), (2, .int .i64 0), (3, .bool false)]) (by kernel_rfl) ?_
     refine runs_ret (fn := Tryz.f48) (v := .tuple #[.int .i64 0, .bool false]) Tryz.func48 (by kernel_rfl) ?_
     have hr19 := (Option.some.inj hp18)
     cases hr19
     exact hR _ _ ⟨rfl, hS15⟩
    ·skip
     have hp20 := ite_f hp13 h17
     refine sx_run 7 (todo' := [.inRegion (opsOf (cd48 [1, 1, 0])) [1, 2, 3, 4, 5, 6], .code (cd48 [1, 1, 1])]) (us := [(17, .bool false), (19, .string a0)]) (by kernel_rfl) ?_
     obtain ⟨t21, hr22, hp23⟩ := bind_some' hp20
     refine r_call1 (c := (cd48 [1, 1, 0])) (i := 1) (d := (some 20)) (g := 52) (args := #[.string a0]) (by kernel_rfl) (by kernel_rfl) (by kernel_rfl) (by kernel_rfl) (strconv_Atoi.ok a0 hS15 hE hr22) ?_
     rintro _ w24 ⟨rfl, hS25⟩
     refine ⟨.tuple #[.int .i64 t21, .nilIface], rfl, ?_⟩
     refine sx_run 12 (todo' := [.code (cd48 [1, 1, 1, 1])]) (us := [(18, .tuple #[.int .i64 t21, .nilIface]), (21, .int .i64 t21), (22, .nilIface), (4, .int .i64 t21), (5, .nilIface), (23, .int .i64 t21), (2, .int .i64 t21), (3, .bool true)]) (by kernel_rfl) ?_
     refine runs_ret (fn := Tryz.f48) (v := .tuple #[.int .i64 t21, .bool true]) Tryz.func48 (by kernel_rfl) ?_
     have hr26 := (Option.some.inj hp23)
     cases hr26
     exact hR _ _ ⟨rfl, hS25⟩

noncomputable def cd41 (p : List Nat) : Code := sub (bodyOf Tryz.f41) p
def cond_reader__ref.f (a0v : cond_reader) : Option (Sum PErr (api_Ref × Int × api_Token)) :=
  (cond_reader__sees.f (⟨a0v.l, a0v.at_, a0v.last, a0v.depth, a0v.c⟩ : cond_reader) 0 4 (⟨#[91]⟩ : ByteArray) >>= (fun t5 => (if t5 = true then (cond_reader__take.f (⟨a0v.l, a0v.at_, a0v.last, a0v.depth, a0v.c⟩ : cond_reader) >>= (fun (t133, t134, t135) => (cond_reader__name.f (⟨a0v.l, t134, t135, a0v.depth, a0v.c⟩ : cond_reader) >>= (fun | .inl pe146 => some (.inl pe146) | .inr (t140, t141, t142) => (cond_reader__sign.f (⟨a0v.l, t141, t142, a0v.depth, a0v.c⟩ : cond_reader) (⟨#[93]⟩ : ByteArray) >>= (fun | .inl pe164 => some (.inl pe164) | .inr (t159, t160) => some (.inr ((⟨(-1), t140⟩ : api_Ref), t159, t160)))))))) else (cond_reader__next.f (⟨a0v.l, a0v.at_, a0v.last, a0v.depth, a0v.c⟩ : cond_reader) >>= (fun (t14, t15) => (((if t15 = true then (if (t14.Kind == 2) = true then (cond_thread.f t14.Text >>= (fun (t67, t68) => (if t68 = true then (cond_reader__take.f (⟨a0v.l, a0v.at_, a0v.last, a0v.depth, a0v.c⟩ : cond_reader) >>= (fun (t76, t77, t78) => (cond_reader__sign.f (⟨a0v.l, t77, t78, a0v.depth, a0v.c⟩ : cond_reader) (⟨#[58]⟩ : ByteArray) >>= (fun | .inl pe89 => some (.inr (.inl pe89)) | .inr (t84, t85) => (cond_reader__name.f (⟨a0v.l, t84, t85, a0v.depth, a0v.c⟩ : cond_reader) >>= (fun | .inl pe109 => some (.inr (.inl pe109)) | .inr (t103, t104, t105) => some (.inr (.inr ((⟨t67, t103⟩ : api_Ref), t104, t105))))))))) else some (.inl ())))) else some (.inl ())) else some (.inl ())) : Option (Sum Unit (Sum PErr (api_Ref × Int × api_Token)))) >>= (fun | .inl () => (cond_reader__name.f (⟨a0v.l, a0v.at_, a0v.last, a0v.depth, a0v.c⟩ : cond_reader) >>= (fun | .inl pe43 => some (.inl pe43) | .inr (t37, t38, t39) => some (.inr ((⟨(-1), t37⟩ : api_Ref), t38, t39)))) | .inr e => some e)))))))
set_option maxHeartbeats 16000000 in
theorem cond_reader__ref.ok (a0v : cond_reader) (ba0 : Nat) (Aa0v_0 : Option Addr) (ca0v_0 : Nat) (Aa0v_4 : Option Addr) (ca0v_4 : Nat) {w0 : World} {Z : Zm} {fs : List XObj} {w : World} (hS0 : St w0 Z (xblk ba0 44 ([.slice Aa0v_0 a0v.l.length ca0v_0] ++ [.int .i64 a0v.at_] ++ (enc_api_Token a0v.last) ++ [.int .i64 a0v.depth] ++ [.slice Aa0v_4 a0v.c.length ca0v_4]) :: fs) w) (ha0v_0 : SlZ (flat enc_api_Token) 7 Z Aa0v_0 ca0v_0 a0v.l) (ha0v_4 : SlZ (flat enc_api_Node) 6 Z Aa0v_4 ca0v_4 a0v.c) (hE : Env Z) {qr : Sum PErr (api_Ref × Int × api_Token)} (hp0 : cond_reader__ref.f a0v = some qr) :
    Calls Tryz.prog 41 #[.pointer (some ⟨ba0, 0, none⟩)] w (fun e w' => PanQ (fun p => ∃ (v : Value) (Z' : Zm), Zm.Le Z Z' ∧ e = .panicked [{ v := v, recovered := false }] ∧ St w0 Z' fs w' ∧ RepE 39 40 Z' v p) (fun q => e = .returned (.agg (enc_api_Ref q.1).toArray) ∧ St w0 Z (xblk ba0 44 ([.slice Aa0v_0 a0v.l.length ca0v_0] ++ [.int .i64 q.2.1] ++ (enc_api_Token q.2.2) ++ [.int .i64 a0v.depth] ++ [.slice Aa0v_4 a0v.c.length ca0v_4]) :: fs) w') qr) := by
  refine calls_abs ?_; intro R hR
  unfold cond_reader__ref.f at hp0
  refine calls_of_runs (fn := Tryz.f41) (c := cd41 []) Tryz.func41 (by kernel_rfl) (al := [.pointer (some ⟨ba0, 0, none⟩)]) rfl (n := 46) rfl ?_
  refine sx_run 2 (todo' := [.inRegion (opsOf (cd41 [0])) [0], .code (cd41 [1])]) (us := []) (by kernel_rfl) ?_
  refine r_alloc (c := (cd41 [0])) (i := 0) (d := (some 2)) (ty := 0) (z := .agg (enc_api_Ref (⟨0, (⟨#[]⟩ : ByteArray)⟩ : api_Ref)).toArray) (t := 51) (cs := enc_api_Ref (⟨0, (⟨#[]⟩ : ByteArray)⟩ : api_Ref)) hS0 (by kernel_rfl) (by kernel_rfl) (by kernel_rfl) (by kernel_rfl) ?_
  intro b1 w2 hS3
  refine sx_run 5 (todo' := [.inRegion (opsOf (cd41 [1, 0, 0])) [1], .code (cd41 [1, 0, 1]), .code (cd41 [1, 1])]) (us := [(8, .pointer (some ⟨ba0, 0, none⟩))]) (by kernel_rfl) ?_
  obtain ⟨t5, hr6, hp7⟩ := bind_some' hp0
  have hS10 := hS3.pick1
  refine r_call1 (c := (cd41 [1, 0, 0])) (i := 1) (d := (some 9)) (g := 24) (args := #[.pointer (some ⟨ba0, 0, none⟩), .int .i64 0, .int .i64 4, .string (⟨#[91]⟩ : ByteArray)]) (by kernel_rfl) (by kernel_rfl) (by kernel_rfl) (by kernel_rfl) (cond_reader__sees.ok (⟨a0v.l, a0v.at_, a0v.last, a0v.depth, a0v.c⟩ : cond_reader) 0 4 (⟨#[91]⟩ : ByteArray) ba0 Aa0v_0 ca0v_0 Aa0v_4 ca0v_4 hS10 ha0v_0 ha0v_4 hr6) ?_
  rintro _ w11 ⟨rfl, hS12⟩
  refine ⟨.bool t5, rfl, ?_⟩
  refine sx_run 1 (todo' := [.code (cd41 [1, 0, 1]), .code (cd41 [1, 1])]) (us := []) (by kernel_rfl) ?_
  cases t5
  ·skip
   have hp13 := ite_f hp7 rfl
   refine sx_run 6 (todo' := [.inRegion (opsOf (cd41 [1, 1, 0, 0])) [1, 2, 3, 4, 5, 6, 7], .code (cd41 [1, 1, 0, 1]), .code (cd41 [1, 1, 1])]) (us := [(19, .pointer (some ⟨ba0, 0, none⟩))]) (by kernel_rfl) ?_
   obtain ⟨⟨t14, t15⟩, hr16, hp17⟩ := bind_some' hp13
   try dsimp only at hp17
   refine r_call1 (c := (cd41 [1, 1, 0, 0])) (i := 1) (d := (some 20)) (g := 42) (args := #[.pointer (some ⟨ba0, 0, none⟩)]) (by kernel_rfl) (by kernel_rfl) (by kernel_rfl) (by kernel_rfl) (cond_reader__next.ok (⟨a0v.l, a0v.at_, a0v.last, a0v.depth, a0v.c⟩ : cond_reader) ba0 Aa0v_0 ca0v_0 Aa0v_4 ca0v_4 hS12 ha0v_0 ha0v_4 hr16) ?_
   rintro _ w20 ⟨rfl, hS21⟩
   refine ⟨.tuple #[.agg (enc_api_Token t14).toArray, .bool t15], rfl, ?_⟩
   refine sx_run 3 (todo' := [.inRegion (opsOf (cd41 [1, 1, 0, 0])) [5, 6, 7], .code (cd41 [1, 1, 0, 1]), .code (cd41 [1, 1, 1])]) (us := [(18, .tuple #[.agg (enc_api_Token t14).toArray, .bool t15]), (21, .agg (enc_api_Token t14).toArray), (22, .bool t15)]) (by kernel_rfl) ?_
   refine r_alloc (c := (cd41 [1, 1, 0, 0])) (i := 5) (d := (some 4)) (ty := 0) (z := .agg (enc_api_Token (⟨0, (⟨#[]⟩ : ByteArray), 0, 0, 0, 0, 0⟩ : api_Token)).toArray) (t := 24) (cs := enc_api_Token (⟨0, (⟨#[]⟩ : ByteArray), 0, 0, 0, 0, 0⟩ : api_Token)) hS21 (by kernel_rfl) (by kernel_rfl) (by kernel_rfl) (by kernel_rfl) ?_
   intro b22 w23 hS24
   refine r_store (c := (cd41 [1, 1, 0, 0])) (i := 6) (d := none) (ty := 0) (t := 24) (x := (.tmp 4)) (y := (.tmp 21)) (b := b22) (o := 0) (e := 24) (cs := enc_api_Token (⟨0, (⟨#[]⟩ : ByteArray), 0, 0, 0, 0, 0⟩ : api_Token)) (v := .agg (enc_api_Token t14).toArray) (vs := enc_api_Token t14) (cs' := enc_api_Token t14) hS24 (by kernel_rfl) (by kernel_rfl) (by kernel_rfl) (by kernel_rfl) (by kernel_rfl) (by kernel_rfl) (one_api_Token _) (Nat.le_of_ble_eq_true (by kernel_rfl)) (by kernel_rfl) ?_
   intro w26 hS27
   refine sx_run 6 (todo' := [.inRegion (opsOf (cd41 [1, 1, 0, 1, 0])) [2, 3, 4, 5], .code (cd41 [1, 1, 0, 1, 1]), .code (cd41 [1, 1, 1])]) (us := [(5, .bool t15), (23, .bool t15), (24, .bool t15)]) (by kernel_rfl) ?_
   obtain ⟨v28, hv29, hp30⟩ := bind_some' hp17
   have hq33 : ∀ x, Sum.inr x = v28 → x = qr := by intro x hx; subst hx; simpa using hp30
   have J34 : ∀ (he36 : Sum.inl () = v28) (l35 : List Value) (w31 : World) (hS32 : St w0 Z (xblk ba0 44 ([.slice Aa0v_0 a0v.l.length ca0v_0] ++ [.int .i64 a0v.at_] ++ (enc_api_Token a0v.last) ++ [.int .i64 a0v.depth] ++ [.slice Aa0v_4 a0v.c.length ca0v_4]) :: xblk b1 51 (enc_api_Ref (⟨0, (⟨#[]⟩ : ByteArray)⟩ : api_Ref)) :: fs) w31), Runs Tryz.prog (fx 41) [.code (cd41 [1, 1, 1])] (fill [some (.pointer (some ⟨ba0, 0, none⟩)), none, some (.pointer (some ⟨b1, 0, none⟩)), none, none, none, none, none, none, none, none, none, none, none, none, none, none, none, none, none, none, none, none, none, none, none, none, none, none, none, none, none, none, none, none, none, none, none, none, none, none, none, none, none, none, none, none] l35) w31 R := by
    intro he36 l35 w31 hS32
    subst he36
    try dsimp only at hp30
    refine sx_run 3 (todo' := [.inRegion (opsOf (cd41 [1, 1, 1, 0])) [1, 2, 3], .code (cd41 [1, 1, 1, 1])]) (us := [(44, .pointer (some ⟨ba0, 0, none⟩))]) (by kernel_rfl) ?_
    obtain ⟨q42, hr40, hp41⟩ := bind_some' hp30
    rcases q42 with pe43 | ⟨t37, t38, t39⟩
    ·skip
     try dsimp only at hp41
     refine r_callX (c := (cd41 [1, 1, 1, 0])) (i := 1) (d := (some 45)) (g := 47) (args := #[.pointer (some ⟨ba0, 0, none⟩)]) (by kernel_rfl) (by kernel_rfl) (by kernel_rfl) (by kernel_rfl) (cond_reader__name.ok (⟨a0v.l, a0v.at_, a0v.last, a0v.depth, a0v.c⟩ : cond_reader) ba0 Aa0v_0 ca0v_0 Aa0v_4 ca0v_4 hS32 ha0v_0 ha0v_4 hr40) ?_
     rintro _ w49 ⟨v44, Z45, hz46, rfl, hS47, he48⟩
     refine ⟨_, rfl, ?_⟩
     have hS51 := hS47.drop
     refine raised_fx Tryz.func41 ?_
     have hr52 := (Option.some.inj hp41)
     cases hr52
     exact hR _ _ (panq_l ⟨v44, Z45, hz46, rfl, hS51, he48⟩)
    ·skip
     try dsimp only at hp41
     refine r_call1 (c := (cd41 [1, 1, 1, 0])) (i := 1) (d := (some 45)) (g := 47) (args := #[.pointer (some ⟨ba0, 0, none⟩)]) (by kernel_rfl) (by kernel_rfl) (by kernel_rfl) (by kernel_rfl) (cond_reader__name.ok (⟨a0v.l, a0v.at_, a0v.last, a0v.depth, a0v.c⟩ : cond_reader) ba0 Aa0v_0 ca0v_0 Aa0v_4 ca0v_4 hS32 ha0v_0 ha0v_4 hr40) ?_
     rintro _ w53 ⟨rfl, hS54⟩
     have hS55 : St w0 Z (xblk ba0 44 ([.slice Aa0v_0 a0v.l.length ca0v_0] ++ [.int .i64 t38] ++ (enc_api_Token t39) ++ [.int .i64 a0v.depth] ++ [.slice Aa0v_4 a0v.c.length ca0v_4]) :: xblk b1 51 (enc_api_Ref (⟨0, (⟨#[]⟩ : ByteArray)⟩ : api_Ref)) :: fs) w53 := hS54
     refine ⟨.string t37, rfl, ?_⟩
     refine sx_run 1 (todo' := [.inRegion (opsOf (cd41 [1, 1, 1, 0])) [3], .code (cd41 [1, 1, 1, 1])]) (us := [(46, .agg (enc_api_Ref (⟨(-1), t37⟩ : api_Ref)).toArray)]) (by kernel_rfl) ?_
     have hS56 := hS55.pick1
     refine r_store (c := (cd41 [1, 1, 1, 0])) (i := 3) (d := none) (ty := 0) (t := 51) (x := (.tmp 2)) (y := (.tmp 46)) (b := b1) (o := 0) (e := 51) (cs := enc_api_Ref (⟨0, (⟨#[]⟩ : ByteArray)⟩ : api_Ref)) (v := .agg (enc_api_Ref (⟨(-1), t37⟩ : api_Ref)).toArray) (vs := enc_api_Ref (⟨(-1), t37⟩ : api_Ref)) (cs' := enc_api_Ref (⟨(-1), t37⟩ : api_Ref)) hS56 (by kernel_rfl) (by kernel_rfl) (by kernel_rfl) (by kernel_rfl) (by kernel_rfl) (by kernel_rfl) (one_api_Ref _) (Nat.le_of_ble_eq_true (by kernel_rfl)) (by kernel_rfl) ?_
     intro w57 hS58
     refine sx_run 1 (todo' := [.code (cd41 [1, 1, 1, 1])]) (us := []) (by kernel_rfl) ?_
     have hS59 := hS58.drop
     refine runs_ret (fn := Tryz.f41) (v := .agg (enc_api_Ref (⟨(-1), t37⟩ : api_Ref)).toArray) Tryz.func41 (resl_run (fn := Tryz.f41) (by kernel_rfl) (.cell (t := 2) (ty := 51) (by kernel_rfl) (loads_agg (hS58.blk 0 rfl) (by kernel_rfl) (by kernel_rfl)) .nil)) ?_
     have hr60 := (Option.some.inj hp41)
     cases hr60
     exact hR _ _ (panq_r ⟨rfl, hS59⟩)
   cases t15
   ·skip
    have hp61 := ite_f hv29 rfl
    refine sx_run 7 (todo' := [.code (cd41 [1, 1, 1])]) (us := [(25, undef), (26, undef), (27, undef), (28, .bool false)]) (by kernel_rfl) ?_
    have hS62 := hS27.drop
    refine Runs.fill (m := [some (.pointer (some ⟨ba0, 0, none⟩)), none, some (.pointer (some ⟨b1, 0, none⟩)), none, none, none, none, none, none, none, none, none, none, none, none, none, none, none, none, none, none, none, none, none, none, none, none, none, none, none, none, none, none, none, none, none, none, none, none, none, none, none, none, none, none, none, none]) (by kernel_rfl) ?_
    exact J34 (Option.some.inj hp61) _ _ hS62
   ·skip
    have hp63 := ite_t hv29 rfl
    refine sx_run 1 (todo' := [.inRegion (opsOf (cd41 [1, 1, 0, 1, 0])) [3, 4, 5], .code (cd41 [1, 1, 0, 1, 1]), .code (cd41 [1, 1, 1])]) (us := [(25, .pointer (some ⟨b22, 0, none⟩))]) (by kernel_rfl) ?_
    refine r_load (c := (cd41 [1, 1, 0, 1, 0])) (i := 3) (d := (some 26)) (ty := 3) (t := 3) (x := (.tmp 25)) (p := ⟨b22, 0, none⟩) (v := .int .i64 t14.Kind) (by kernel_rfl) (by kernel_rfl) (by kernel_rfl) (loads_at 0 (hS27.blk 0 rfl) (by kernel_rfl) (by kernel_rfl)) ?_
    refine sx_split 1 (todo' := [.inRegion (opsOf (cd41 [1, 1, 0, 1, 0])) [5], .code (cd41 [1, 1, 0, 1, 1]), .code (cd41 [1, 1, 1])]) (us := []) (d := 27) (t := (t14.Kind == 2)) (by kernel_rfl) (fun h64 => ?_) (fun h65 => ?_)
    ·skip
     have hp66 := ite_t hp63 h64
     refine sx_run 6 (todo' := [.inRegion (opsOf (cd41 [1, 1, 0, 1, 1, 0, 0])) [1, 2, 3, 4, 5, 6, 7], .code (cd41 [1, 1, 0, 1, 1, 0, 1]), .code (cd41 [1, 1, 1])]) (us := [(28, .bool true), (30, .pointer (some ⟨b22, 1, none⟩))]) (by kernel_rfl) ?_
     refine r_load (c := (cd41 [1, 1, 0, 1, 1, 0, 0])) (i := 1) (d := (some 31)) (ty := 9) (t := 9) (x := (.tmp 30)) (p := ⟨b22, 1, none⟩) (v := .string t14.Text) (by kernel_rfl) (by kernel_rfl) (by kernel_rfl) (loads_at 1 (hS27.blk 0 rfl) (by kernel_rfl) (by kernel_rfl)) ?_
     obtain ⟨⟨t67, t68⟩, hr69, hp70⟩ := bind_some' hp66
     try dsimp only at hp70
     refine r_call1 (c := (cd41 [1, 1, 0, 1, 1, 0, 0])) (i := 2) (d := (some 32)) (g := 48) (args := #[.string t14.Text]) (by kernel_rfl) (by kernel_rfl) (by kernel_rfl) (by kernel_rfl) (cond_thread.ok t14.Text hS27 hE hr69) ?_
     rintro _ w71 ⟨rfl, hS72⟩
     refine ⟨.tuple #[.int .i64 t67, .bool t68], rfl, ?_⟩
     refine sx_run 10 (todo' := [.code (cd41 [1, 1, 0, 1, 1, 0, 1, 1]), .code (cd41 [1, 1, 1])]) (us := [(29, .tuple #[.int .i64 t67, .bool t68]), (33, .int .i64 t67), (34, .bool t68), (6, .int .i64 t67), (7, .bool t68), (35, .bool t68)]) (by kernel_rfl) ?_
     cases t68
     ·skip
      have hp73 := ite_f hp70 rfl
      refine sx_run 2 (todo' := [.code (cd41 [1, 1, 1])]) (us := []) (by kernel_rfl) ?_
      have hS74 := hS72.drop
      refine Runs.fill (m := [some (.pointer (some ⟨ba0, 0, none⟩)), none, some (.pointer (some ⟨b1, 0, none⟩)), none, none, none, none, none, none, none, none, none, none, none, none, none, none, none, none, none, none, none, none, none, none, none, none, none, none, none, none, none, none, none, none, none, none, none, none, none, none, none, none, none, none, none, none]) (by kernel_rfl) ?_
      exact J34 (Option.some.inj hp73) _ _ hS74
     ·skip
      have hp75 := ite_t hp70 rfl
      refine sx_run 4 (todo' := [.inRegion (opsOf (cd41 [1, 1, 0, 1, 1, 0, 1, 1, 0, 0])) [1], .code (cd41 [1, 1, 0, 1, 1, 0, 1, 1, 0, 1]), .code (cd41 [1, 1, 1])]) (us := [(36, .pointer (some ⟨ba0, 0, none⟩))]) (by kernel_rfl) ?_
      obtain ⟨⟨t76, t77, t78⟩, hr79, hp80⟩ := bind_some' hp75
      try dsimp only at hp80
      have hS81 := hS72.pick1
      refine r_call1 (c := (cd41 [1, 1, 0, 1, 1, 0, 1, 1, 0, 0])) (i := 1) (d := (some 37)) (g := 25) (args := #[.pointer (some ⟨ba0, 0, none⟩)]) (by kernel_rfl) (by kernel_rfl) (by kernel_rfl) (by kernel_rfl) (cond_reader__take.ok (⟨a0v.l, a0v.at_, a0v.last, a0v.depth, a0v.c⟩ : cond_reader) ba0 Aa0v_0 ca0v_0 Aa0v_4 ca0v_4 hS81 ha0v_0 ha0v_4 hr79) ?_
      rintro _ w82 ⟨rfl, hS83⟩
      refine ⟨.agg (enc_api_Token t76).toArray, rfl, ?_⟩
      refine sx_run 4 (todo' := [.inRegion (opsOf (cd41 [1, 1, 0, 1, 1, 0, 1, 1, 0, 1, 0])) [1], .code (cd41 [1, 1, 0, 1, 1, 0, 1, 1, 0, 1, 1]), .code (cd41 [1, 1, 1])]) (us := [(38, .pointer (some ⟨ba0, 0, none⟩))]) (by kernel_rfl) ?_
      obtain ⟨q88, hr86, hp87⟩ := bind_some' hp80
      rcases q88 with pe89 | ⟨t84, t85⟩
      ·skip
       try dsimp only at hp87
       refine r_callX (c := (cd41 [1, 1, 0, 1, 1, 0, 1, 1, 0, 1, 0])) (i := 1) (d := (some 39)) (g := 35) (args := #[.pointer (some ⟨ba0, 0, none⟩), .string (⟨#[58]⟩ : ByteArray)]) (by kernel_rfl) (by kernel_rfl) (by kernel_rfl) (by kernel_rfl) (cond_reader__sign.ok (⟨a0v.l, t77, t78, a0v.depth, a0v.c⟩ : cond_reader) (⟨#[58]⟩ : ByteArray) ba0 Aa0v_0 ca0v_0 Aa0v_4 ca0v_4 hS83 ha0v_0 ha0v_4 hr86) ?_
       rintro _ w95 ⟨v90, Z91, hz92, rfl, hS93, he94⟩
       refine ⟨_, rfl, ?_⟩
       have hS97 := hS93.drop
       have hS98 := hS97.drop
       refine raised_fx Tryz.func41 ?_
       have hr99 := (hq33 _ (Option.some.inj hp87))
       cases hr99
       exact hR _ _ (panq_l ⟨v90, Z91, hz92, rfl, hS98, he94⟩)
      ·skip
       try dsimp only at hp87
       refine r_call1 (c := (cd41 [1, 1, 0, 1, 1, 0, 1, 1, 0, 1, 0])) (i := 1) (d := (some 39)) (g := 35) (args := #[.pointer (some ⟨ba0, 0, none⟩), .string (⟨#[58]⟩ : ByteArray)]) (by kernel_rfl) (by kernel_rfl) (by kernel_rfl) (by kernel_rfl) (cond_reader__sign.ok (⟨a0v.l, t77, t78, a0v.depth, a0v.c⟩ : cond_reader) (⟨#[58]⟩ : ByteArray) ba0 Aa0v_0 ca0v_0 Aa0v_4 ca0v_4 hS83 ha0v_0 ha0v_4 hr86) ?_
       rintro _ w100 ⟨rfl, hS101⟩
       have hS102 : St w0 Z (xblk ba0 44 ([.slice Aa0v_0 a0v.l.length ca0v_0] ++ [.int .i64 t84] ++ (enc_api_Token t85) ++ [.int .i64 a0v.depth] ++ [.slice Aa0v_4 a0v.c.length ca0v_4]) :: xblk b22 24 (enc_api_Token t14) :: xblk b1 51 (enc_api_Ref (⟨0, (⟨#[]⟩ : ByteArray)⟩ : api_Ref)) :: fs) w100 := hS101
       refine ⟨.tuple #[], rfl, ?_⟩
       refine sx_run 5 (todo' := [.inRegion (opsOf (cd41 [1, 1, 0, 1, 1, 0, 1, 1, 0, 1, 1, 0])) [2, 3, 4], .code (cd41 [1, 1, 0, 1, 1, 0, 1, 1, 0, 1, 1, 1]), .code (cd41 [1, 1, 1])]) (us := [(40, .int .i64 t67), (41, .pointer (some ⟨ba0, 0, none⟩))]) (by kernel_rfl) ?_
       obtain ⟨q108, hr106, hp107⟩ := bind_some' hp87
       rcases q108 with pe109 | ⟨t103, t104, t105⟩
       ·skip
        try dsimp only at hp107
        refine r_callX (c := (cd41 [1, 1, 0, 1, 1, 0, 1, 1, 0, 1, 1, 0])) (i := 2) (d := (some 42)) (g := 47) (args := #[.pointer (some ⟨ba0, 0, none⟩)]) (by kernel_rfl) (by kernel_rfl) (by kernel_rfl) (by kernel_rfl) (cond_reader__name.ok (⟨a0v.l, t84, t85, a0v.depth, a0v.c⟩ : cond_reader) ba0 Aa0v_0 ca0v_0 Aa0v_4 ca0v_4 hS102 ha0v_0 ha0v_4 hr106) ?_
        rintro _ w115 ⟨v110, Z111, hz112, rfl, hS113, he114⟩
        refine ⟨_, rfl, ?_⟩
        have hS117 := hS113.drop
        have hS118 := hS117.drop
        refine raised_fx Tryz.func41 ?_
        have hr119 := (hq33 _ (Option.some.inj hp107))
        cases hr119
        exact hR _ _ (panq_l ⟨v110, Z111, hz112, rfl, hS118, he114⟩)
       ·skip
        try dsimp only at hp107
        refine r_call1 (c := (cd41 [1, 1, 0, 1, 1, 0, 1, 1, 0, 1, 1, 0])) (i := 2) (d := (some 42)) (g := 47) (args := #[.pointer (some ⟨ba0, 0, none⟩)]) (by kernel_rfl) (by kernel_rfl) (by kernel_rfl) (by kernel_rfl) (cond_reader__name.ok (⟨a0v.l, t84, t85, a0v.depth, a0v.c⟩ : cond_reader) ba0 Aa0v_0 ca0v_0 Aa0v_4 ca0v_4 hS102 ha0v_0 ha0v_4 hr106) ?_
        rintro _ w120 ⟨rfl, hS121⟩
        have hS122 : St w0 Z (xblk ba0 44 ([.slice Aa0v_0 a0v.l.length ca0v_0] ++ [.int .i64 t104] ++ (enc_api_Token t105) ++ [.int .i64 a0v.depth] ++ [.slice Aa0v_4 a0v.c.length ca0v_4]) :: xblk b22 24 (enc_api_Token t14) :: xblk b1 51 (enc_api_Ref (⟨0, (⟨#[]⟩ : ByteArray)⟩ : api_Ref)) :: fs) w120 := hS121
        refine ⟨.string t103, rfl, ?_⟩
        refine sx_run 1 (todo' := [.inRegion (opsOf (cd41 [1, 1, 0, 1, 1, 0, 1, 1, 0, 1, 1, 0])) [4], .code (cd41 [1, 1, 0, 1, 1, 0, 1, 1, 0, 1, 1, 1]), .code (cd41 [1, 1, 1])]) (us := [(43, .agg (enc_api_Ref (⟨t67, t103⟩ : api_Ref)).toArray)]) (by kernel_rfl) ?_
        have hS123 := hS122.pick2
        refine r_store (c := (cd41 [1, 1, 0, 1, 1, 0, 1, 1, 0, 1, 1, 0])) (i := 4) (d := none) (ty := 0) (t := 51) (x := (.tmp 2)) (y := (.tmp 43)) (b := b1) (o := 0) (e := 51) (cs := enc_api_Ref (⟨0, (⟨#[]⟩ : ByteArray)⟩ : api_Ref)) (v := .agg (enc_api_Ref (⟨t67, t103⟩ : api_Ref)).toArray) (vs := enc_api_Ref (⟨t67, t103⟩ : api_Ref)) (cs' := enc_api_Ref (⟨t67, t103⟩ : api_Ref)) hS123 (by kernel_rfl) (by kernel_rfl) (by kernel_rfl) (by kernel_rfl) (by kernel_rfl) (by kernel_rfl) (one_api_Ref _) (Nat.le_of_ble_eq_true (by kernel_rfl)) (by kernel_rfl) ?_
        intro w124 hS125
        refine sx_run 1 (todo' := [.code (cd41 [1, 1, 0, 1, 1, 0, 1, 1, 0, 1, 1, 1]), .code (cd41 [1, 1, 1])]) (us := []) (by kernel_rfl) ?_
        have hS126 := hS125.drop
        have hS127 := hS126.pick1
        have hS128 := hS127.drop
        refine runs_ret (fn := Tryz.f41) (v := .agg (enc_api_Ref (⟨t67, t103⟩ : api_Ref)).toArray) Tryz.func41 (resl_run (fn := Tryz.f41) (by kernel_rfl) (.cell (t := 2) (ty := 51) (by kernel_rfl) (loads_agg (hS125.blk 0 rfl) (by kernel_rfl) (by kernel_rfl)) .nil)) ?_
        have hr129 := (hq33 _ (Option.some.inj hp107))
        cases hr129
        exact hR _ _ (panq_r ⟨rfl, hS128⟩)
    ·skip
     have hp130 := ite_f hp63 h65
     refine sx_run 4 (todo' := [.code (cd41 [1, 1, 1])]) (us := [(28, .bool false)]) (by kernel_rfl) ?_
     have hS131 := hS27.drop
     refine Runs.fill (m := [some (.pointer (some ⟨ba0, 0, none⟩)), none, some (.pointer (some ⟨b1, 0, none⟩)), none, none, none, none, none, none, none, none, none, none, none, none, none, none, none, none, none, none, none, none, none, none, none, none, none, none, none, none, none, none, none, none, none, none, none, none, none, none, none, none, none, none, none, none]) (by kernel_rfl) ?_
     exact J34 (Option.some.inj hp130) _ _ hS131
  ·skip
   have hp132 := ite_t hp7 rfl
   refine sx_run 4 (todo' := [.inRegion (opsOf (cd41 [1, 0, 1, 0, 0])) [1], .code (cd41 [1, 0, 1, 0, 1]), .code (cd41 [1, 1])]) (us := [(10, .pointer (some ⟨ba0, 0, none⟩))]) (by kernel_rfl) ?_
   obtain ⟨⟨t133, t134, t135⟩, hr136, hp137⟩ := bind_some' hp132
   try dsimp only at hp137
   refine r_call1 (c := (cd41 [1, 0, 1, 0, 0])) (i := 1) (d := (some 11)) (g := 25) (args := #[.pointer (some ⟨ba0, 0, none⟩)]) (by kernel_rfl) (by kernel_rfl) (by kernel_rfl) (by kernel_rfl) (cond_reader__take.ok (⟨a0v.l, a0v.at_, a0v.last, a0v.depth, a0v.c⟩ : cond_reader) ba0 Aa0v_0 ca0v_0 Aa0v_4 ca0v_4 hS12 ha0v_0 ha0v_4 hr136) ?_
   rintro _ w138 ⟨rfl, hS139⟩
   refine ⟨.agg (enc_api_Token t133).toArray, rfl, ?_⟩
   refine sx_run 4 (todo' := [.inRegion (opsOf (cd41 [1, 0, 1, 0, 1, 0])) [1, 2], .code (cd41 [1, 0, 1, 0, 1, 1]), .code (cd41 [1, 1])]) (us := [(12, .pointer (some ⟨ba0, 0, none⟩))]) (by kernel_rfl) ?_
   obtain ⟨q145, hr143, hp144⟩ := bind_some' hp137
   rcases q145 with pe146 | ⟨t140, t141, t142⟩
   ·skip
    try dsimp only at hp144
    refine r_callX (c := (cd41 [1, 0, 1, 0, 1, 0])) (i := 1) (d := (some 13)) (g := 47) (args := #[.pointer (some ⟨ba0, 0, none⟩)]) (by kernel_rfl) (by kernel_rfl) (by kernel_rfl) (by kernel_rfl) (cond_reader__name.ok (⟨a0v.l, t134, t135, a0v.depth, a0v.c⟩ : cond_reader) ba0 Aa0v_0 ca0v_0 Aa0v_4 ca0v_4 hS139 ha0v_0 ha0v_4 hr143) ?_
    rintro _ w152 ⟨v147, Z148, hz149, rfl, hS150, he151⟩
    refine ⟨_, rfl, ?_⟩
    have hS154 := hS150.drop
    refine raised_fx Tryz.func41 ?_
    have hr155 := (Option.some.inj hp144)
    cases hr155
    exact hR _ _ (panq_l ⟨v147, Z148, hz149, rfl, hS154, he151⟩)
   ·skip
    try dsimp only at hp144
    refine r_call1 (c := (cd41 [1, 0, 1, 0, 1, 0])) (i := 1) (d := (some 13)) (g := 47) (args := #[.pointer (some ⟨ba0, 0, none⟩)]) (by kernel_rfl) (by kernel_rfl) (by kernel_rfl) (by kernel_rfl) (cond_reader__name.ok (⟨a0v.l, t134, t135, a0v.depth, a0v.c⟩ : cond_reader) ba0 Aa0v_0 ca0v_0 Aa0v_4 ca0v_4 hS139 ha0v_0 ha0v_4 hr143) ?_
    rintro _ w156 ⟨rfl, hS157⟩
    have hS158 : St w0 Z (xblk ba0 44 ([.slice Aa0v_0 a0v.l.length ca0v_0] ++ [.int .i64 t141] ++ (enc_api_Token t142) ++ [.int .i64 a0v.depth] ++ [.slice Aa0v_4 a0v.c.length ca0v_4]) :: xblk b1 51 (enc_api_Ref (⟨0, (⟨#[]⟩ : ByteArray)⟩ : api_Ref)) :: fs) w156 := hS157
    refine ⟨.string t140, rfl, ?_⟩
    refine sx_run 5 (todo' := [.inRegion (opsOf (cd41 [1, 0, 1, 0, 1, 1, 0])) [1], .code (cd41 [1, 0, 1, 0, 1, 1, 1]), .code (cd41 [1, 1])]) (us := [(3, .string t140), (14, .pointer (some ⟨ba0, 0, none⟩))]) (by kernel_rfl) ?_
    obtain ⟨q163, hr161, hp162⟩ := bind_some' hp144
    rcases q163 with pe164 | ⟨t159, t160⟩
    ·skip
     try dsimp only at hp162
     refine r_callX (c := (cd41 [1, 0, 1, 0, 1, 1, 0])) (i := 1) (d := (some 15)) (g := 35) (args := #[.pointer (some ⟨ba0, 0, none⟩), .string (⟨#[93]⟩ : ByteArray)]) (by kernel_rfl) (by kernel_rfl) (by kernel_rfl) (by kernel_rfl) (cond_reader__sign.ok (⟨a0v.l, t141, t142, a0v.depth, a0v.c⟩ : cond_reader) (⟨#[93]⟩ : ByteArray) ba0 Aa0v_0 ca0v_0 Aa0v_4 ca0v_4 hS158 ha0v_0 ha0v_4 hr161) ?_
     rintro _ w170 ⟨v165, Z166, hz167, rfl, hS168, he169⟩
     refine ⟨_, rfl, ?_⟩
     have hS172 := hS168.drop
     refine raised_fx Tryz.func41 ?_
     have hr173 := (Option.some.inj hp162)
     cases hr173
     exact hR _ _ (panq_l ⟨v165, Z166, hz167, rfl, hS172, he169⟩)
    ·skip
     try dsimp only at hp162
     refine r_call1 (c := (cd41 [1, 0, 1, 0, 1, 1, 0])) (i := 1) (d := (some 15)) (g := 35) (args := #[.pointer (some ⟨ba0, 0, none⟩), .string (⟨#[93]⟩ : ByteArray)]) (by kernel_rfl) (by kernel_rfl) (by kernel_rfl) (by kernel_rfl) (cond_reader__sign.ok (⟨a0v.l, t141, t142, a0v.depth, a0v.c⟩ : cond_reader) (⟨#[93]⟩ : ByteArray) ba0 Aa0v_0 ca0v_0 Aa0v_4 ca0v_4 hS158 ha0v_0 ha0v_4 hr161) ?_
     rintro _ w174 ⟨rfl, hS175⟩
     have hS176 : St w0 Z (xblk ba0 44 ([.slice Aa0v_0 a0v.l.length ca0v_0] ++ [.int .i64 t159] ++ (enc_api_Token t160) ++ [.int .i64 a0v.depth] ++ [.slice Aa0v_4 a0v.c.length ca0v_4]) :: xblk b1 51 (enc_api_Ref (⟨0, (⟨#[]⟩ : ByteArray)⟩ : api_Ref)) :: fs) w174 := hS175
     refine ⟨.tuple #[], rfl, ?_⟩
     refine sx_run 5 (todo' := [.inRegion (opsOf (cd41 [1, 0, 1, 0, 1, 1, 1, 0])) [2], .code (cd41 [1, 0, 1, 0, 1, 1, 1, 1]), .code (cd41 [1, 1])]) (us := [(16, .string t140), (17, .agg (enc_api_Ref (⟨(-1), t140⟩ : api_Ref)).toArray)]) (by kernel_rfl) ?_
     have hS177 := hS176.pick1
     refine r_store (c := (cd41 [1, 0, 1, 0, 1, 1, 1, 0])) (i := 2) (d := none) (ty := 0) (t := 51) (x := (.tmp 2)) (y := (.tmp 17)) (b := b1) (o := 0) (e := 51) (cs := enc_api_Ref (⟨0, (⟨#[]⟩ : ByteArray)⟩ : api_Ref)) (v := .agg (enc_api_Ref (⟨(-1), t140⟩ : api_Ref)).toArray) (vs := enc_api_Ref (⟨(-1), t140⟩ : api_Ref)) (cs' := enc_api_Ref (⟨(-1), t140⟩ : api_Ref)) hS177 (by kernel_rfl) (by kernel_rfl) (by kernel_rfl) (by kernel_rfl) (by kernel_rfl) (by kernel_rfl) (one_api_Ref _) (Nat.le_of_ble_eq_true (by kernel_rfl)) (by kernel_rfl) ?_
     intro w178 hS179
     refine sx_run 1 (todo' := [.code (cd41 [1, 0, 1, 0, 1, 1, 1, 1]), .code (cd41 [1, 1])]) (us := []) (by kernel_rfl) ?_
     have hS180 := hS179.drop
     refine runs_ret (fn := Tryz.f41) (v := .agg (enc_api_Ref (⟨(-1), t140⟩ : api_Ref)).toArray) Tryz.func41 (resl_run (fn := Tryz.f41) (by kernel_rfl) (.cell (t := 2) (ty := 51) (by kernel_rfl) (loads_agg (hS179.blk 0 rfl) (by kernel_rfl) (by kernel_rfl)) .nil)) ?_
     have hr181 := (Option.some.inj hp162)
     cases hr181
     exact hR _ _ (panq_r ⟨rfl, hS180⟩)

noncomputable def cd36 (p : List Nat) : Code := sub (bodyOf Tryz.f36) p
def cond_reader__is.f (a0v : cond_reader) : Option (Sum PErr (Int × Int × api_Token × (List api_Node))) :=
  (cond_reader__ref.f (⟨a0v.l, a0v.at_, a0v.last, a0v.depth, a0v.c⟩ : cond_reader) >>= (fun | .inl pe7 => some (.inl pe7) | .inr (t1, t2, t3) => (cond_reader__sign.f (⟨a0v.l, t2, t3, a0v.depth, a0v.c⟩ : cond_reader) (⟨#[61]⟩ : ByteArray) >>= (fun | .inl pe43 => some (.inl pe43) | .inr (t38, t39) => (cond_reader__next.f (⟨a0v.l, t38, t39, a0v.depth, a0v.c⟩ : cond_reader) >>= (fun (t71, t72) => (if (!t72) = true then (cond_reader__syntax.f (⟨a0v.l, t38, t39, a0v.depth, a0v.c⟩ : cond_reader) >>= (fun | .inl pe97 => some (.inl pe97) | .inr _ => none)) else (if (t71.Kind != 2) = true then (cond_reader__syntax.f (⟨a0v.l, t38, t39, a0v.depth, a0v.c⟩ : cond_reader) >>= (fun | .inl pe122 => some (.inl pe122) | .inr _ => none)) else (cond_reader__take.f (⟨a0v.l, t38, t39, a0v.depth, a0v.c⟩ : cond_reader) >>= (fun (t141, t142, t143) => (cond_reader__node.f (⟨a0v.l, t142, t143, a0v.depth, a0v.c⟩ : cond_reader) (⟨2, 0, 0, t1, t141.Value⟩ : api_Node) >>= (fun | .inl pe166 => some (.inl pe166) | .inr (t159, t160) => some (.inr (t159, t142, t143, t160))))))))))))))
set_option maxHeartbeats 16000000 in
theorem cond_reader__is.ok (a0v : cond_reader) (ba0 : Nat) (Aa0v_0 : Option Addr) (ca0v_0 : Nat) (Aa0v_4 : Option Addr) (ca0v_4 : Nat) {w0 : World} {Z : Zm} {fs : List XObj} {w : World} (hS0 : St w0 Z (xblk ba0 44 ([.slice Aa0v_0 a0v.l.length ca0v_0] ++ [.int .i64 a0v.at_] ++ (enc_api_Token a0v.last) ++ [.int .i64 a0v.depth] ++ [.slice Aa0v_4 a0v.c.length ca0v_4]) :: xrow Aa0v_4 ca0v_4 53 6 (a0v.c.flatMap enc_api_Node) :: fs) w) (ha0v_0 : SlZ (flat enc_api_Token) 7 Z Aa0v_0 ca0v_0 a0v.l) (hE : Env Z) {qr : Sum PErr (Int × Int × api_Token × (List api_Node))} (hp0 : cond_reader__is.f a0v = some qr) :
    Calls Tryz.prog 36 #[.pointer (some ⟨ba0, 0, none⟩)] w (fun e w' => PanQ (fun p => ∃ (v : Value) (Z' : Zm), Zm.Le Z Z' ∧ e = .panicked [{ v := v, recovered := false }] ∧ St w0 Z' fs w' ∧ RepE 39 40 Z' v p) (fun q => ∃ (QA0 : Option Addr) (Qc0 : Nat), e = .returned (.int .i64 q.1) ∧ St w0 Z (xrow QA0 Qc0 53 6 (q.2.2.2.flatMap enc_api_Node) :: xblk ba0 44 ([.slice Aa0v_0 a0v.l.length ca0v_0] ++ [.int .i64 q.2.1] ++ (enc_api_Token q.2.2.1) ++ [.int .i64 a0v.depth] ++ [.slice QA0 q.2.2.2.length Qc0]) :: fs) w') qr) := by
  refine calls_abs ?_; intro R hR
  unfold cond_reader__is.f at hp0
  refine calls_of_runs (fn := Tryz.f36) (c := cd36 []) Tryz.func36 (by kernel_rfl) (al := [.pointer (some ⟨ba0, 0, none⟩)]) rfl (n := 31) rfl ?_
  refine sx_run 7 (todo' := [.inRegion (opsOf (cd36 [1, 0])) [1, 2, 3, 4], .code (cd36 [1, 1])]) (us := [(2, .int .i64 0), (6, .pointer (some ⟨ba0, 0, none⟩))]) (by kernel_rfl) ?_
  obtain ⟨q6, hr4, hp5⟩ := bind_some' hp0
  rcases q6 with pe7 | ⟨t1, t2, t3⟩
  ·skip
   try dsimp only at hp5
   have hS8 := hS0.pick1
   obtain ⟨Z9, hz10, hS11, hs12, hb13⟩ := hS8.lendrow len_api_Node (by omega)
   refine r_callX (c := (cd36 [1, 0])) (i := 1) (d := (some 7)) (g := 41) (args := #[.pointer (some ⟨ba0, 0, none⟩)]) (by kernel_rfl) (by kernel_rfl) (by kernel_rfl) (by kernel_rfl) (cond_reader__ref.ok (⟨a0v.l, a0v.at_, a0v.last, a0v.depth, a0v.c⟩ : cond_reader) ba0 Aa0v_0 ca0v_0 Aa0v_4 ca0v_4 hS11 (ha0v_0.up hz10) hs12 (hE.up hz10) hr4) ?_
   rintro _ w19 ⟨v14, Z15, hz16, rfl, hS17, he18⟩
   refine ⟨_, rfl, ?_⟩
   refine raised_fx Tryz.func36 ?_
   have hr21 := (Option.some.inj hp5)
   cases hr21
   exact hR _ _ (panq_l ⟨v14, Z15, (Zm.Le.trans hz10 hz16), rfl, hS17, he18⟩)
  ·skip
   try dsimp only at hp5
   have hS22 := hS0.pick1
   obtain ⟨Z23, hz24, hS25, hs26, hb27⟩ := hS22.lendrow len_api_Node (by omega)
   refine r_call1 (c := (cd36 [1, 0])) (i := 1) (d := (some 7)) (g := 41) (args := #[.pointer (some ⟨ba0, 0, none⟩)]) (by kernel_rfl) (by kernel_rfl) (by kernel_rfl) (by kernel_rfl) (cond_reader__ref.ok (⟨a0v.l, a0v.at_, a0v.last, a0v.depth, a0v.c⟩ : cond_reader) ba0 Aa0v_0 ca0v_0 Aa0v_4 ca0v_4 hS25 (ha0v_0.up hz24) hs26 (hE.up hz24) hr4) ?_
   rintro _ w28 ⟨rfl, hS29⟩
   have hS30 : St w0 Z23 (xblk ba0 44 ([.slice Aa0v_0 a0v.l.length ca0v_0] ++ [.int .i64 t2] ++ (enc_api_Token t3) ++ [.int .i64 a0v.depth] ++ [.slice Aa0v_4 a0v.c.length ca0v_4]) :: fs) w28 := hS29
   refine ⟨.agg (enc_api_Ref t1).toArray, rfl, ?_⟩
   have hS31 := hb27 _ _ hS30
   refine sx_run 1 (todo' := [.inRegion (opsOf (cd36 [1, 0])) [3, 4], .code (cd36 [1, 1])]) (us := [(8, .agg (enc_api_Node (⟨2, 0, 0, t1, 0⟩ : api_Node)).toArray)]) (by kernel_rfl) ?_
   refine r_alloc (c := (cd36 [1, 0])) (i := 3) (d := (some 3)) (ty := 0) (z := .agg (enc_api_Node (⟨0, 0, 0, ⟨0, (⟨#[]⟩ : ByteArray)⟩, 0⟩ : api_Node)).toArray) (t := 53) (cs := enc_api_Node (⟨0, 0, 0, ⟨0, (⟨#[]⟩ : ByteArray)⟩, 0⟩ : api_Node)) hS31 (by kernel_rfl) (by kernel_rfl) (by kernel_rfl) (by kernel_rfl) ?_
   intro b32 w33 hS34
   refine r_store (c := (cd36 [1, 0])) (i := 4) (d := none) (ty := 0) (t := 53) (x := (.tmp 3)) (y := (.tmp 8)) (b := b32) (o := 0) (e := 53) (cs := enc_api_Node (⟨0, 0, 0, ⟨0, (⟨#[]⟩ : ByteArray)⟩, 0⟩ : api_Node)) (v := .agg (enc_api_Node (⟨2, 0, 0, t1, 0⟩ : api_Node)).toArray) (vs := enc_api_Node (⟨2, 0, 0, t1, 0⟩ : api_Node)) (cs' := enc_api_Node (⟨2, 0, 0, t1, 0⟩ : api_Node)) hS34 (by kernel_rfl) (by kernel_rfl) (by kernel_rfl) (by kernel_rfl) (by kernel_rfl) (by kernel_rfl) (one_api_Node _) (Nat.le_of_ble_eq_true (by kernel_rfl)) (by kernel_rfl) ?_
   intro w36 hS37
   refine sx_run 4 (todo' := [.inRegion (opsOf (cd36 [1, 1, 0])) [1], .code (cd36 [1, 1, 1])]) (us := [(9, .pointer (some ⟨ba0, 0, none⟩))]) (by kernel_rfl) ?_
   obtain ⟨q42, hr40, hp41⟩ := bind_some' hp5
   rcases q42 with pe43 | ⟨t38, t39⟩
   ·skip
    try dsimp only at hp41
    have hS44 := hS37.pick1
    obtain ⟨Z45, hz46, hS47, hs48, hb49⟩ := hS44.lendrow len_api_Node (by omega)
    have hS50 := hS47.pick1
    refine r_callX (c := (cd36 [1, 1, 0])) (i := 1) (d := (some 10)) (g := 35) (args := #[.pointer (some ⟨ba0, 0, none⟩), .string (⟨#[61]⟩ : ByteArray)]) (by kernel_rfl) (by kernel_rfl) (by kernel_rfl) (by kernel_rfl) (cond_reader__sign.ok (⟨a0v.l, t2, t3, a0v.depth, a0v.c⟩ : cond_reader) (⟨#[61]⟩ : ByteArray) ba0 Aa0v_0 ca0v_0 Aa0v_4 ca0v_4 hS50 (ha0v_0.up hz46) hs48 hr40) ?_
    rintro _ w56 ⟨v51, Z52, hz53, rfl, hS54, he55⟩
    refine ⟨_, rfl, ?_⟩
    have hS58 := hS54.drop
    refine raised_fx Tryz.func36 ?_
    have hr59 := (Option.some.inj hp41)
    cases hr59
    exact hR _ _ (panq_l ⟨v51, Z52, (Zm.Le.trans hz46 hz53), rfl, hS58, he55⟩)
   ·skip
    try dsimp only at hp41
    have hS60 := hS37.pick1
    obtain ⟨Z61, hz62, hS63, hs64, hb65⟩ := hS60.lendrow len_api_Node (by omega)
    have hS66 := hS63.pick1
    refine r_call1 (c := (cd36 [1, 1, 0])) (i := 1) (d := (some 10)) (g := 35) (args := #[.pointer (some ⟨ba0, 0, none⟩), .string (⟨#[61]⟩ : ByteArray)]) (by kernel_rfl) (by kernel_rfl) (by kernel_rfl) (by kernel_rfl) (cond_reader__sign.ok (⟨a0v.l, t2, t3, a0v.depth, a0v.c⟩ : cond_reader) (⟨#[61]⟩ : ByteArray) ba0 Aa0v_0 ca0v_0 Aa0v_4 ca0v_4 hS66 (ha0v_0.up hz62) hs64 hr40) ?_
    rintro _ w67 ⟨rfl, hS68⟩
    have hS69 : St w0 Z61 (xblk ba0 44 ([.slice Aa0v_0 a0v.l.length ca0v_0] ++ [.int .i64 t38] ++ (enc_api_Token t39) ++ [.int .i64 a0v.depth] ++ [.slice Aa0v_4 a0v.c.length ca0v_4]) :: xblk b32 53 (enc_api_Node (⟨2, 0, 0, t1, 0⟩ : api_Node)) :: fs) w67 := hS68
    refine ⟨.tuple #[], rfl, ?_⟩
    have hS70 := hb65 _ _ hS69
    refine sx_run 5 (todo' := [.inRegion (opsOf (cd36 [1, 1, 1, 0, 0])) [1, 2, 3, 4, 5, 6, 7], .code (cd36 [1, 1, 1, 0, 1]), .code (cd36 [1, 1, 1, 1])]) (us := [(12, .pointer (some ⟨ba0, 0, none⟩))]) (by kernel_rfl) ?_
    obtain ⟨⟨t71, t72⟩, hr73, hp74⟩ := bind_some' hp41
    try dsimp only at hp74
    obtain ⟨Z77, hz78, hS79, hs80, hb81⟩ := hS70.lendrow len_api_Node (by omega)
    refine r_call1 (c := (cd36 [1, 1, 1, 0, 0])) (i := 1) (d := (some 13)) (g := 42) (args := #[.pointer (some ⟨ba0, 0, none⟩)]) (by kernel_rfl) (by kernel_rfl) (by kernel_rfl) (by kernel_rfl) (cond_reader__next.ok (⟨a0v.l, t38, t39, a0v.depth, a0v.c⟩ : cond_reader) ba0 Aa0v_0 ca0v_0 Aa0v_4 ca0v_4 hS79 (ha0v_0.up hz78) hs80 hr73) ?_
    rintro _ w82 ⟨rfl, hS83⟩
    refine ⟨.tuple #[.agg (enc_api_Token t71).toArray, .bool t72], rfl, ?_⟩
    have hS84 := hb81 _ _ hS83
    refine sx_run 3 (todo' := [.inRegion (opsOf (cd36 [1, 1, 1, 0, 0])) [5, 6, 7], .code (cd36 [1, 1, 1, 0, 1]), .code (cd36 [1, 1, 1, 1])]) (us := [(11, .tuple #[.agg (enc_api_Token t71).toArray, .bool t72]), (14, .agg (enc_api_Token t71).toArray), (15, .bool t72)]) (by kernel_rfl) ?_
    refine r_alloc (c := (cd36 [1, 1, 1, 0, 0])) (i := 5) (d := (some 4)) (ty := 0) (z := .agg (enc_api_Token (⟨0, (⟨#[]⟩ : ByteArray), 0, 0, 0, 0, 0⟩ : api_Token)).toArray) (t := 24) (cs := enc_api_Token (⟨0, (⟨#[]⟩ : ByteArray), 0, 0, 0, 0, 0⟩ : api_Token)) hS84 (by kernel_rfl) (by kernel_rfl) (by kernel_rfl) (by kernel_rfl) ?_
    intro b85 w86 hS87
    refine r_store (c := (cd36 [1, 1, 1, 0, 0])) (i := 6) (d := none) (ty := 0) (t := 24) (x := (.tmp 4)) (y := (.tmp 14)) (b := b85) (o := 0) (e := 24) (cs := enc_api_Token (⟨0, (⟨#[]⟩ : ByteArray), 0, 0, 0, 0, 0⟩ : api_Token)) (v := .agg (enc_api_Token t71).toArray) (vs := enc_api_Token t71) (cs' := enc_api_Token t71) hS87 (by kernel_rfl) (by kernel_rfl) (by kernel_rfl) (by kernel_rfl) (by kernel_rfl) (by kernel_rfl) (one_api_Token _) (Nat.le_of_ble_eq_true (by kernel_rfl)) (by kernel_rfl) ?_
    intro w89 hS90
    refine sx_split 6 (todo' := [.inRegion (opsOf (cd36 [1, 1, 1, 0, 1, 0])) [2, 3, 4, 5, 6], .code (cd36 [1, 1, 1, 0, 1, 1]), .code (cd36 [1, 1, 1, 1])]) (us := [(5, .bool t72), (16, .bool t72)]) (d := 17) (t := (!t72)) (by kernel_rfl) (fun h91 => ?_) (fun h92 => ?_)
    ·skip
     have hp93 := ite_t hp74 h91
     refine sx_run 9 (todo' := [.inRegion (opsOf (cd36 [1, 1, 1, 0, 1, 1, 0])) [1], .code (cd36 [1, 1, 1, 1])]) (us := [(18, .bool true), (19, undef), (20, undef), (21, undef), (22, .bool true), (23, .pointer (some ⟨ba0, 0, none⟩))]) (by kernel_rfl) ?_
     obtain ⟨q96, hr94, hp95⟩ := bind_some' hp93
     rcases q96 with pe97 | _
     ·skip
      try dsimp only at hp95
      have hS98 := hS90.pick1
      obtain ⟨Z99, hz100, hS101, hs102, hb103⟩ := hS98.lendrow len_api_Node (by omega)
      have hS104 := hS101.pick1
      refine r_callX (c := (cd36 [1, 1, 1, 0, 1, 1, 0])) (i := 1) (d := (some 24)) (g := 40) (args := #[.pointer (some ⟨ba0, 0, none⟩)]) (by kernel_rfl) (by kernel_rfl) (by kernel_rfl) (by kernel_rfl) (cond_reader__syntax.ok (⟨a0v.l, t38, t39, a0v.depth, a0v.c⟩ : cond_reader) ba0 Aa0v_0 ca0v_0 Aa0v_4 ca0v_4 hS104 (ha0v_0.up hz100) hs102 hr94) ?_
      rintro _ w110 ⟨v105, Z106, hz107, rfl, hS108, he109⟩
      refine ⟨_, rfl, ?_⟩
      have hS112 := hS108.drop
      have hS113 := hS112.drop
      refine raised_fx Tryz.func36 ?_
      have hr114 := (Option.some.inj hp95)
      cases hr114
      exact hR _ _ (panq_l ⟨v105, Z106, (Zm.Le.trans hz100 hz107), rfl, hS113, he109⟩)
     ·skip
      try dsimp only at hp95
      cases hp95
    ·skip
     have hp115 := ite_f hp74 h92
     refine sx_run 2 (todo' := [.inRegion (opsOf (cd36 [1, 1, 1, 0, 1, 0])) [4, 5, 6], .code (cd36 [1, 1, 1, 0, 1, 1]), .code (cd36 [1, 1, 1, 1])]) (us := [(18, .bool false), (19, .pointer (some ⟨b85, 0, none⟩))]) (by kernel_rfl) ?_
     refine r_load (c := (cd36 [1, 1, 1, 0, 1, 0])) (i := 4) (d := (some 20)) (ty := 3) (t := 3) (x := (.tmp 19)) (p := ⟨b85, 0, none⟩) (v := .int .i64 t71.Kind) (by kernel_rfl) (by kernel_rfl) (by kernel_rfl) (loads_at 0 (hS90.blk 0 rfl) (by kernel_rfl) (by kernel_rfl)) ?_
     refine sx_split 1 (todo' := [.inRegion (opsOf (cd36 [1, 1, 1, 0, 1, 0])) [6], .code (cd36 [1, 1, 1, 0, 1, 1]), .code (cd36 [1, 1, 1, 1])]) (us := []) (d := 21) (t := (t71.Kind != 2)) (by kernel_rfl) (fun h116 => ?_) (fun h117 => ?_)
     ·skip
      have hp118 := ite_t hp115 h116
      refine sx_run 5 (todo' := [.inRegion (opsOf (cd36 [1, 1, 1, 0, 1, 1, 0])) [1], .code (cd36 [1, 1, 1, 1])]) (us := [(22, .bool true), (23, .pointer (some ⟨ba0, 0, none⟩))]) (by kernel_rfl) ?_
      obtain ⟨q121, hr119, hp120⟩ := bind_some' hp118
      rcases q121 with pe122 | _
      ·skip
       try dsimp only at hp120
       have hS123 := hS90.pick1
       obtain ⟨Z124, hz125, hS126, hs127, hb128⟩ := hS123.lendrow len_api_Node (by omega)
       have hS129 := hS126.pick1
       refine r_callX (c := (cd36 [1, 1, 1, 0, 1, 1, 0])) (i := 1) (d := (some 24)) (g := 40) (args := #[.pointer (some ⟨ba0, 0, none⟩)]) (by kernel_rfl) (by kernel_rfl) (by kernel_rfl) (by kernel_rfl) (cond_reader__syntax.ok (⟨a0v.l, t38, t39, a0v.depth, a0v.c⟩ : cond_reader) ba0 Aa0v_0 ca0v_0 Aa0v_4 ca0v_4 hS129 (ha0v_0.up hz125) hs127 hr119) ?_
       rintro _ w135 ⟨v130, Z131, hz132, rfl, hS133, he134⟩
       refine ⟨_, rfl, ?_⟩
       have hS137 := hS133.drop
       have hS138 := hS137.drop
       refine raised_fx Tryz.func36 ?_
       have hr139 := (Option.some.inj hp120)
       cases hr139
       exact hR _ _ (panq_l ⟨v130, Z131, (Zm.Le.trans hz125 hz132), rfl, hS138, he134⟩)
      ·skip
       try dsimp only at hp120
       cases hp120
     ·skip
      have hp140 := ite_f hp115 h117
      refine sx_run 7 (todo' := [.inRegion (opsOf (cd36 [1, 1, 1, 1, 0])) [1, 2, 3, 4], .code (cd36 [1, 1, 1, 1, 1])]) (us := [(22, .bool false), (25, .pointer (some ⟨ba0, 0, none⟩))]) (by kernel_rfl) ?_
      obtain ⟨⟨t141, t142, t143⟩, hr144, hp145⟩ := bind_some' hp140
      try dsimp only at hp145
      have hS146 := hS90.pick1
      obtain ⟨Z147, hz148, hS149, hs150, hb151⟩ := hS146.lendrow len_api_Node (by omega)
      have hS152 := hS149.pick1
      refine r_call1 (c := (cd36 [1, 1, 1, 1, 0])) (i := 1) (d := (some 26)) (g := 25) (args := #[.pointer (some ⟨ba0, 0, none⟩)]) (by kernel_rfl) (by kernel_rfl) (by kernel_rfl) (by kernel_rfl) (cond_reader__take.ok (⟨a0v.l, t38, t39, a0v.depth, a0v.c⟩ : cond_reader) ba0 Aa0v_0 ca0v_0 Aa0v_4 ca0v_4 hS152 (ha0v_0.up hz148) hs150 hr144) ?_
      rintro _ w153 ⟨rfl, hS154⟩
      refine ⟨.agg (enc_api_Token t141).toArray, rfl, ?_⟩
      have hS155 := hb151 _ _ hS154
      refine sx_run 2 (todo' := [.inRegion (opsOf (cd36 [1, 1, 1, 1, 0])) [4], .code (cd36 [1, 1, 1, 1, 1])]) (us := [(27, .int .i64 t141.Value), (28, .pointer (some ⟨b32, 5, none⟩))]) (by kernel_rfl) ?_
      have hS156 := hS155.pick3
      refine r_store (c := (cd36 [1, 1, 1, 1, 0])) (i := 4) (d := none) (ty := 0) (t := 2) (x := (.tmp 28)) (y := (.tmp 27)) (b := b32) (o := 5) (e := 53) (cs := enc_api_Node (⟨2, 0, 0, t1, 0⟩ : api_Node)) (v := .int .i64 t141.Value) (vs := [.int .i64 t141.Value]) (cs' := enc_api_Node (⟨2, 0, 0, t1, t141.Value⟩ : api_Node)) hS156 (by kernel_rfl) (by kernel_rfl) (by kernel_rfl) (by kernel_rfl) (by kernel_rfl) (by kernel_rfl) (by kernel_rfl) (Nat.le_of_ble_eq_true (by kernel_rfl)) (by kernel_rfl) ?_
      intro w157 hS158
      refine sx_run 4 (todo' := [.inRegion (opsOf (cd36 [1, 1, 1, 1, 1, 0])) [1, 2, 3], .code (cd36 [1, 1, 1, 1, 1, 1])]) (us := [(29, .pointer (some ⟨ba0, 0, none⟩))]) (by kernel_rfl) ?_
      refine r_load (c := (cd36 [1, 1, 1, 1, 1, 0])) (i := 1) (d := (some 30)) (ty := 53) (t := 53) (x := (.tmp 3)) (p := ⟨b32, 0, none⟩) (v := .agg (enc_api_Node (⟨2, 0, 0, t1, t141.Value⟩ : api_Node)).toArray) (by kernel_rfl) (by kernel_rfl) (by kernel_rfl) (loads_agg (hS158.blk 0 rfl) (by kernel_rfl) (by kernel_rfl)) ?_
      obtain ⟨q165, hr163, hp164⟩ := bind_some' hp145
      rcases q165 with pe166 | ⟨t159, t160⟩
      ·skip
       try dsimp only at hp164
       have hS167 := hS158.pick1
       have hS168 := hS167.pick2
       refine r_callX (c := (cd36 [1, 1, 1, 1, 1, 0])) (i := 2) (d := (some 31)) (g := 26) (args := #[.pointer (some ⟨ba0, 0, none⟩), .agg (enc_api_Node (⟨2, 0, 0, t1, t141.Value⟩ : api_Node)).toArray]) (by kernel_rfl) (by kernel_rfl) (by kernel_rfl) (by kernel_rfl) (cond_reader__node.ok (⟨a0v.l, t142, t143, a0v.depth, a0v.c⟩ : cond_reader) (⟨2, 0, 0, t1, t141.Value⟩ : api_Node) ba0 Aa0v_0 ca0v_0 Aa0v_4 ca0v_4 hS168 ha0v_0 hr163) ?_
       rintro _ w174 ⟨v169, Z170, hz171, rfl, hS172, he173⟩
       refine ⟨_, rfl, ?_⟩
       have hS176 := hS172.drop
       have hS177 := hS176.drop
       refine raised_fx Tryz.func36 ?_
       have hr178 := (Option.some.inj hp164)
       cases hr178
       exact hR _ _ (panq_l ⟨v169, Z170, hz171, rfl, hS177, he173⟩)
      ·skip
       try dsimp only at hp164
       have hS180 := hS158.pick1
       have hS181 := hS180.pick2
       refine r_call1 (c := (cd36 [1, 1, 1, 1, 1, 0])) (i := 2) (d := (some 31)) (g := 26) (args := #[.pointer (some ⟨ba0, 0, none⟩), .agg (enc_api_Node (⟨2, 0, 0, t1, t141.Value⟩ : api_Node)).toArray]) (by kernel_rfl) (by kernel_rfl) (by kernel_rfl) (by kernel_rfl) (cond_reader__node.ok (⟨a0v.l, t142, t143, a0v.depth, a0v.c⟩ : cond_reader) (⟨2, 0, 0, t1, t141.Value⟩ : api_Node) ba0 Aa0v_0 ca0v_0 Aa0v_4 ca0v_4 hS181 ha0v_0 hr163) ?_
       rintro _ w182 ⟨Q161, Q162, rfl, hS183⟩
       have hS184 : St w0 Z (xrow Q161 Q162 53 6 (t160.flatMap enc_api_Node) :: xblk ba0 44 ([.slice Aa0v_0 a0v.l.length ca0v_0] ++ [.int .i64 t142] ++ (enc_api_Token t143) ++ [.int .i64 a0v.depth] ++ [.slice Q161 t160.length Q162]) :: xblk b32 53 (enc_api_Node (⟨2, 0, 0, t1, t141.Value⟩ : api_Node)) :: xblk b85 24 (enc_api_Token t71) :: fs) w182 := hS183
       refine ⟨.int .i64 t159, rfl, ?_⟩
       refine sx_run 2 (todo' := [.code (cd36 [1, 1, 1, 1, 1, 1])]) (us := [(2, .int .i64 t159)]) (by kernel_rfl) ?_
       have hS185 := hS184.pick2
       have hS186 := hS185.drop
       have hS187 := hS186.pick2
       have hS188 := hS187.drop
       refine runs_ret (fn := Tryz.f36) (v := .int .i64 t159) Tryz.func36 (by kernel_rfl) ?_
       have hr189 := (Option.some.inj hp164)
       cases hr189
       exact hR _ _ (panq_r ⟨Q161, Q162, rfl, hS188⟩)

def cond_reader__not.Spec (rec : cond_reader → Option (Sum PErr (Int × (List api_Token) × Int × api_Token × Int × (List api_Node)))) : Prop := ∀ (a0v : cond_reader) (ba0 : Nat) (Aa0v_0 : Option Addr) (ca0v_0 : Nat) (Aa0v_4 : Option Addr) (ca0v_4 : Nat) {w0 : World} {Z : Zm} {fs : List XObj} {w : World} (_ : St w0 Z (xblk ba0 44 ([.slice Aa0v_0 a0v.l.length ca0v_0] ++ [.int .i64 a0v.at_] ++ (enc_api_Token a0v.last) ++ [.int .i64 a0v.depth] ++ [.slice Aa0v_4 a0v.c.length ca0v_4]) :: xrow Aa0v_4 ca0v_4 53 6 (a0v.c.flatMap enc_api_Node) :: fs) w) (_ : SlZ (flat enc_api_Token) 7 Z Aa0v_0 ca0v_0 a0v.l) (_ : Env Z) {qr : Sum PErr (Int × (List api_Token) × Int × api_Token × Int × (List api_Node))}, rec a0v = some qr →
    Calls Tryz.prog 27 #[.pointer (some ⟨ba0, 0, none⟩)] w (fun e w' => PanQ (fun p => ∃ (v : Value) (Z' : Zm), Zm.Le Z Z' ∧ e = .panicked [{ v := v, recovered := false }] ∧ St w0 Z' fs w' ∧ RepE 39 40 Z' v p) (fun q => ∃ (QA0 : Option Addr) (Qc0 : Nat) (QA2 : Option Addr) (Qc2 : Nat), e = .returned (.int .i64 q.1) ∧ St w0 Z (xrow QA2 Qc2 53 6 (q.2.2.2.2.2.flatMap enc_api_Node) :: xblk ba0 44 ([.slice QA0 q.2.1.length Qc0] ++ [.int .i64 q.2.2.1] ++ (enc_api_Token q.2.2.2.1) ++ [.int .i64 q.2.2.2.2.1] ++ [.slice QA2 q.2.2.2.2.2.length Qc2]) :: fs) w' ∧ SlZ (flat enc_api_Token) 7 Z QA0 Qc0 q.2.1) qr)

noncomputable def cd14 (p : List Nat) : Code := sub (bodyOf Tryz.f14) p
def cond_reader__chain_5.l0 (rec_cond_reader__not : cond_reader → Option (Sum PErr (Int × (List api_Token) × Int × api_Token × Int × (List api_Node)))) (a1 : ByteArray) (a2 : Int) (t58 : Int) (t59 : List api_Token) (t64 : Int) (t65 : api_Token) (t66 : Int) (t67 : List api_Node) : Option (Sum (Int × (List api_Token) × Int × api_Token × Int × (List api_Node)) (Sum PErr (Int × (List api_Token) × Int × api_Token × Int × (List api_Node)))) :=
  (cond_reader__sees.f (⟨t59, t64, t65, t66, t67⟩ : cond_reader) 0 4 a1 >>= (fun t81 => (if t81 = true then (cond_reader__take.f (⟨t59, t64, t65, t66, t67⟩ : cond_reader) >>= (fun (t98, t99, t100) => (rec_cond_reader__not (⟨t59, t99, t100, t66, t67⟩ : cond_reader) >>= (fun | .inl pe124 => some (.inr (.inl pe124)) | .inr (t111, t112, t113, t114, t115, t116) => (cond_reader__node.f (⟨t112, t113, t114, t115, t116⟩ : cond_reader) (⟨a2, t58, t111, (⟨0, (⟨#[]⟩ : ByteArray)⟩ : api_Ref), 0⟩ : api_Node) >>= (fun | .inl pe149 => some (.inr (.inl pe149)) | .inr (t142, t143) => (cond_reader__chain_5.l0 rec_cond_reader__not a1 a2 t142 t112 t113 t114 t115 t143))))))) else some (.inl (t58, t59, t64, t65, t66, t67)))))
 partial_fixpoint
def cond_reader__chain_5.f (rec_cond_reader__not : cond_reader → Option (Sum PErr (Int × (List api_Token) × Int × api_Token × Int × (List api_Node)))) (a0v : cond_reader) (a1 : ByteArray) (a2 : Int) : Option (Sum PErr (Int × (List api_Token) × Int × api_Token × Int × (List api_Node))) :=
  (rec_cond_reader__not (⟨a0v.l, a0v.at_, a0v.last, a0v.depth, a0v.c⟩ : cond_reader) >>= (fun | .inl pe14 => some (.inl pe14) | .inr (t1, t2, t3, t4, t5, t6) => (cond_reader__chain_5.l0 rec_cond_reader__not a1 a2 t1 t2 t3 t4 t5 t6 >>= (fun | .inl (t37, t38, t43, t44, t45, t46) => some (.inr (t37, t38, t43, t44, t45, t46)) | .inr e => some e))))
set_option maxHeartbeats 16000000 in
theorem cond_reader__chain_5.ok (rec_cond_reader__not : cond_reader → Option (Sum PErr (Int × (List api_Token) × Int × api_Token × Int × (List api_Node)))) (hrec_cond_reader__not : cond_reader__not.Spec rec_cond_reader__not) (a0v : cond_reader) (a1 : ByteArray) (a2 : Int) (ba0 : Nat) (Aa0v_0 : Option Addr) (ca0v_0 : Nat) (Aa0v_4 : Option Addr) (ca0v_4 : Nat) {w0 : World} {Z : Zm} {fs : List XObj} {w : World} (hS0 : St w0 Z (xblk ba0 44 ([.slice Aa0v_0 a0v.l.length ca0v_0] ++ [.int .i64 a0v.at_] ++ (enc_api_Token a0v.last) ++ [.int .i64 a0v.depth] ++ [.slice Aa0v_4 a0v.c.length ca0v_4]) :: xrow Aa0v_4 ca0v_4 53 6 (a0v.c.flatMap enc_api_Node) :: fs) w) (ha0v_0 : SlZ (flat enc_api_Token) 7 Z Aa0v_0 ca0v_0 a0v.l) (hE : Env Z) {qr : Sum PErr (Int × (List api_Token) × Int × api_Token × Int × (List api_Node))} (hp0 : cond_reader__chain_5.f rec_cond_reader__not a0v a1 a2 = some qr) :
    Calls Tryz.prog 14 #[.pointer (some ⟨ba0, 0, none⟩), .string a1, .int .i64 a2, .func (.func 27) #[.pointer (some ⟨ba0, 0, none⟩)] #[]] w (fun e w' => PanQ (fun p => ∃ (v : Value) (Z' : Zm), Zm.Le Z Z' ∧ e = .panicked [{ v := v, recovered := false }] ∧ St w0 Z' fs w' ∧ RepE 39 40 Z' v p) (fun q => ∃ (QA0 : Option Addr) (Qc0 : Nat) (QA2 : Option Addr) (Qc2 : Nat), e = .returned (.int .i64 q.1) ∧ St w0 Z (xrow QA2 Qc2 53 6 (q.2.2.2.2.2.flatMap enc_api_Node) :: xblk ba0 44 ([.slice QA0 q.2.1.length Qc0] ++ [.int .i64 q.2.2.1] ++ (enc_api_Token q.2.2.2.1) ++ [.int .i64 q.2.2.2.2.1] ++ [.slice QA2 q.2.2.2.2.2.length Qc2]) :: fs) w' ∧ SlZ (flat enc_api_Token) 7 Z QA0 Qc0 q.2.1) qr) := by
  refine calls_abs ?_; intro R hR
  unfold cond_reader__chain_5.f at hp0
  refine calls_of_runs (fn := Tryz.f14) (c := cd14 []) Tryz.func14 (by kernel_rfl) (al := [.pointer (some ⟨ba0, 0, none⟩), .string a1, .int .i64 a2, .func (.func 27) #[.pointer (some ⟨ba0, 0, none⟩)] #[]]) rfl (n := 23) rfl ?_
  refine sx_run 7 (todo' := [.inRegion (opsOf (cd14 [1, 0])) [1, 2], .code (cd14 [1, 1])]) (us := [(8, .int .i64 0), (11, .func (.func 27) #[.pointer (some ⟨ba0, 0, none⟩)] #[])]) (by kernel_rfl) ?_
  obtain ⟨q13, hr11, hp12⟩ := bind_some' hp0
  rcases q13 with pe14 | ⟨t1, t2, t3, t4, t5, t6⟩
  ·skip
   try dsimp only at hp12
   have hS15 := hS0.pick1
   have hS16 := hS15.pick1
   refine r_callX (c := (cd14 [1, 0])) (i := 1) (d := (some 12)) (g := 27) (args := #[.pointer (some ⟨ba0, 0, none⟩)]) (by kernel_rfl) (by kernel_rfl) (by kernel_rfl) (by kernel_rfl) (hrec_cond_reader__not (⟨a0v.l, a0v.at_, a0v.last, a0v.depth, a0v.c⟩ : cond_reader) ba0 Aa0v_0 ca0v_0 Aa0v_4 ca0v_4 hS16 ha0v_0 hE hr11) ?_
   rintro _ w22 ⟨v17, Z18, hz19, rfl, hS20, he21⟩
   refine ⟨_, rfl, ?_⟩
   refine raised_fx Tryz.func14 ?_
   have hr24 := (Option.some.inj hp12)
   cases hr24
   exact hR _ _ (panq_l ⟨v17, Z18, hz19, rfl, hS20, he21⟩)
  ·skip
   try dsimp only at hp12
   have hS27 := hS0.pick1
   have hS28 := hS27.pick1
   refine r_call1 (c := (cd14 [1, 0])) (i := 1) (d := (some 12)) (g := 27) (args := #[.pointer (some ⟨ba0, 0, none⟩)]) (by kernel_rfl) (by kernel_rfl) (by kernel_rfl) (by kernel_rfl) (hrec_cond_reader__not (⟨a0v.l, a0v.at_, a0v.last, a0v.depth, a0v.c⟩ : cond_reader) ba0 Aa0v_0 ca0v_0 Aa0v_4 ca0v_4 hS28 ha0v_0 hE hr11) ?_
   rintro _ w29 ⟨Q7, Q8, Q9, Q10, rfl, hS30, hs31⟩
   have hS32 : St w0 Z (xrow Q9 Q10 53 6 (t6.flatMap enc_api_Node) :: xblk ba0 44 ([.slice Q7 t2.length Q8] ++ [.int .i64 t3] ++ (enc_api_Token t4) ++ [.int .i64 t5] ++ [.slice Q9 t6.length Q10]) :: fs) w29 := hS30
   have hs33 : SlZ (flat enc_api_Token) 7 Z Q7 Q8 t2 := hs31
   refine ⟨.int .i64 t1, rfl, ?_⟩
   refine sx_run 5 (todo' := [.code (cd14 [1, 1, 0, 0, 0]), .inLoop (cd14 [1, 1, 0, 0, 0]), .inBlock 0, .code (cd14 [1, 1, 1])]) (us := [(9, .int .i64 t1)]) (by kernel_rfl) ?_
   obtain ⟨v34, hv35, hp36⟩ := bind_some' hp12
   have hq52 : ∀ x, Sum.inr x = v34 → x = qr := by intro x hx; subst hx; simpa using hp36
   have J53 : ∀ (t37 : Int) (t38 : List api_Token) (t43 : Int) (t44 : api_Token) (t45 : Int) (t46 : List api_Node) (he55 : Sum.inl (t37, t38, t43, t44, t45, t46) = v34) (l54 : List Value) (A39 : Option Addr) (c40 : Nat) (A47 : Option Addr) (c48 : Nat) (w50 : World) (hS51 : St w0 Z (xblk ba0 44 ([.slice A39 t38.length c40] ++ [.int .i64 t43] ++ (enc_api_Token t44) ++ [.int .i64 t45] ++ [.slice A47 t46.length c48]) :: xrow A47 c48 53 6 (t46.flatMap enc_api_Node) :: fs) w50) (hs42 : SlZ (flat enc_api_Token) 7 Z A39 c40 t38), Runs Tryz.prog (fx 14) [.code (cd14 [1, 1, 1])] (fill [none, none, none, none, none, none, none, none, none, some (.int .i64 t37), none, none, none, none, none, none, none, none, none, none, none, none, none, none, none, none, none] l54) w50 R := by
    intro t37 t38 t43 t44 t45 t46 he55 l54 A39 c40 A47 c48 w50 hS51 hs42
    subst he55
    try dsimp only at hp36
    refine sx_run 5 (todo' := [.code (cd14 [1, 1, 1, 1])]) (us := [(26, .int .i64 t37), (8, .int .i64 t37)]) (by kernel_rfl) ?_
    have hS56 := hS51.pick1
    refine runs_ret (fn := Tryz.f14) (v := .int .i64 t37) Tryz.func14 (by kernel_rfl) ?_
    have hr57 := (Option.some.inj hp36)
    cases hr57
    exact hR _ _ (panq_r ⟨A39, c40, A47, c48, rfl, hS56, hs42⟩)
   have L79 : ∀ (t58 : Int) (t59 : List api_Token) (t64 : Int) (t65 : api_Token) (t66 : Int) (t67 : List api_Node) (e74 : Sum (Int × (List api_Token) × Int × api_Token × Int × (List api_Node)) (Sum PErr (Int × (List api_Token) × Int × api_Token × Int × (List api_Node)))), cond_reader__chain_5.l0 rec_cond_reader__not a1 a2 t58 t59 t64 t65 t66 t67 = some e74 → e74 = v34 → ∀ (l73 : List Value) (A60 : Option Addr) (c61 : Nat) (A68 : Option Addr) (c69 : Nat) (w71 : World) (hS72 : St w0 Z (xblk ba0 44 ([.slice A60 t59.length c61] ++ [.int .i64 t64] ++ (enc_api_Token t65) ++ [.int .i64 t66] ++ [.slice A68 t67.length c69]) :: xrow A68 c69 53 6 (t67.flatMap enc_api_Node) :: fs) w71) (hs63 : SlZ (flat enc_api_Token) 7 Z A60 c61 t59), Runs Tryz.prog (fx 14) [.code (cd14 [1, 1, 0, 0, 0]), .inLoop (cd14 [1, 1, 0, 0, 0]), .inBlock 0, .code (cd14 [1, 1, 1])] (fill [some (.pointer (some ⟨ba0, 0, none⟩)), some (.string a1), some (.int .i64 a2), some (.func (.func 27) #[.pointer (some ⟨ba0, 0, none⟩)] #[]), none, none, none, none, none, some (.int .i64 t58), none, none, none, none, none, none, none, none, none, none, none, none, none, none, none, none, none] l73) w71 R := by
    refine cond_reader__chain_5.l0.partial_correctness rec_cond_reader__not a1 a2 (fun t58 t59 t64 t65 t66 t67 e74 => e74 = v34 → ∀ (l73 : List Value) (A60 : Option Addr) (c61 : Nat) (A68 : Option Addr) (c69 : Nat) (w71 : World) (hS72 : St w0 Z (xblk ba0 44 ([.slice A60 t59.length c61] ++ [.int .i64 t64] ++ (enc_api_Token t65) ++ [.int .i64 t66] ++ [.slice A68 t67.length c69]) :: xrow A68 c69 53 6 (t67.flatMap enc_api_Node) :: fs) w71) (hs63 : SlZ (flat enc_api_Token) 7 Z A60 c61 t59), Runs Tryz.prog (fx 14) [.code (cd14 [1, 1, 0, 0, 0]), .inLoop (cd14 [1, 1, 0, 0, 0]), .inBlock 0, .code (cd14 [1, 1, 1])] (fill [some (.pointer (some ⟨ba0, 0, none⟩)), some (.string a1), some (.int .i64 a2), some (.func (.func 27) #[.pointer (some ⟨ba0, 0, none⟩)] #[]), none, none, none, none, none, some (.int .i64 t58), none, none, none, none, none, none, none, none, none, none, none, none, none, none, none, none, none] l73) w71 R) ?_
    intro rec78 ih77 t58 t59 t64 t65 t66 t67 e74 hb76 he75 l73 A60 c61 A68 c69 w71 hS72 hs63
    have hq80 : ∀ x, Sum.inr x = e74 → x = qr := fun x hx => hq52 x (hx.trans he75)
    refine sx_run 5 (todo' := [.inRegion (opsOf (cd14 [1, 1, 0, 0, 0, 0, 0])) [2], .code (cd14 [1, 1, 0, 0, 0, 0, 1]), .code (cd14 [1, 1, 0, 0, 0, 1]), .inLoop (cd14 [1, 1, 0, 0, 0]), .inBlock 0, .code (cd14 [1, 1, 1])]) (us := [(13, .pointer (some ⟨ba0, 0, none⟩)), (14, .string a1)]) (by kernel_rfl) ?_
    obtain ⟨t81, hr82, hp83⟩ := bind_some' hb76
    have hS86 := hS72.pick1
    obtain ⟨Z87, hz88, hS89, hs90, hb91⟩ := hS86.lendrow len_api_Node (by omega)
    refine r_call1 (c := (cd14 [1, 1, 0, 0, 0, 0, 0])) (i := 2) (d := (some 15)) (g := 24) (args := #[.pointer (some ⟨ba0, 0, none⟩), .int .i64 0, .int .i64 4, .string a1]) (by kernel_rfl) (by kernel_rfl) (by kernel_rfl) (by kernel_rfl) (cond_reader__sees.ok (⟨t59, t64, t65, t66, t67⟩ : cond_reader) 0 4 a1 ba0 A60 c61 A68 c69 hS89 (hs63.up hz88) hs90 hr82) ?_
    rintro _ w92 ⟨rfl, hS93⟩
    refine ⟨.bool t81, rfl, ?_⟩
    have hS94 := hb91 _ _ hS93
    refine sx_run 1 (todo' := [.code (cd14 [1, 1, 0, 0, 0, 0, 1]), .code (cd14 [1, 1, 0, 0, 0, 1]), .inLoop (cd14 [1, 1, 0, 0, 0]), .inBlock 0, .code (cd14 [1, 1, 1])]) (us := []) (by kernel_rfl) ?_
    cases t81
    ·skip
     have hp95 := ite_f hp83 rfl
     refine sx_run 2 (todo' := [.code (cd14 [1, 1, 1])]) (us := []) (by kernel_rfl) ?_
     have hS96 := hS94.pick1
     refine Runs.fill (m := [none, none, none, none, none, none, none, none, none, some (.int .i64 t58), none, none, none, none, none, none, none, none, none, none, none, none, none, none, none, none, none]) (by kernel_rfl) ?_
     exact J53 t58 t59 t64 t65 t66 t67 ((Option.some.inj hp95).trans he75) _ A60 c61 A68 c69 _ hS96 hs63
    ·skip
     have hp97 := ite_t hp83 rfl
     refine sx_run 6 (todo' := [.inRegion (opsOf (cd14 [1, 1, 0, 0, 0, 1, 0, 0])) [1], .code (cd14 [1, 1, 0, 0, 0, 1, 0, 1]), .inBlock 1, .inLoop (cd14 [1, 1, 0, 0, 0]), .inBlock 0, .code (cd14 [1, 1, 1])]) (us := [(16, .pointer (some ⟨ba0, 0, none⟩))]) (by kernel_rfl) ?_
     obtain ⟨⟨t98, t99, t100⟩, hr101, hp102⟩ := bind_some' hp97
     try dsimp only at hp102
     obtain ⟨Z103, hz104, hS105, hs106, hb107⟩ := hS94.lendrow len_api_Node (by omega)
     refine r_call1 (c := (cd14 [1, 1, 0, 0, 0, 1, 0, 0])) (i := 1) (d := (some 17)) (g := 25) (args := #[.pointer (some ⟨ba0, 0, none⟩)]) (by kernel_rfl) (by kernel_rfl) (by kernel_rfl) (by kernel_rfl) (cond_reader__take.ok (⟨t59, t64, t65, t66, t67⟩ : cond_reader) ba0 A60 c61 A68 c69 hS105 (hs63.up hz104) hs106 hr101) ?_
     rintro _ w108 ⟨rfl, hS109⟩
     refine ⟨.agg (enc_api_Token t98).toArray, rfl, ?_⟩
     have hS110 := hb107 _ _ hS109
     refine sx_run 4 (todo' := [.inRegion (opsOf (cd14 [1, 1, 0, 0, 0, 1, 0, 1, 0])) [1, 2], .code (cd14 [1, 1, 0, 0, 0, 1, 0, 1, 1]), .inBlock 1, .inLoop (cd14 [1, 1, 0, 0, 0]), .inBlock 0, .code (cd14 [1, 1, 1])]) (us := [(18, .func (.func 27) #[.pointer (some ⟨ba0, 0, none⟩)] #[])]) (by kernel_rfl) ?_
     obtain ⟨q123, hr121, hp122⟩ := bind_some' hp102
     rcases q123 with pe124 | ⟨t111, t112, t113, t114, t115, t116⟩
     ·skip
      try dsimp only at hp122
      have hS125 := hS110.pick1
      refine r_callX (c := (cd14 [1, 1, 0, 0, 0, 1, 0, 1, 0])) (i := 1) (d := (some 19)) (g := 27) (args := #[.pointer (some ⟨ba0, 0, none⟩)]) (by kernel_rfl) (by kernel_rfl) (by kernel_rfl) (by kernel_rfl) (hrec_cond_reader__not (⟨t59, t99, t100, t66, t67⟩ : cond_reader) ba0 A60 c61 A68 c69 hS125 hs63 hE hr121) ?_
      rintro _ w131 ⟨v126, Z127, hz128, rfl, hS129, he130⟩
      refine ⟨_, rfl, ?_⟩
      refine raised_fx Tryz.func14 ?_
      have hr133 := (hq80 _ (Option.some.inj hp122))
      cases hr133
      exact hR _ _ (panq_l ⟨v126, Z127, hz128, rfl, hS129, he130⟩)
     ·skip
      try dsimp only at hp122
      have hS136 := hS110.pick1
      refine r_call1 (c := (cd14 [1, 1, 0, 0, 0, 1, 0, 1, 0])) (i := 1) (d := (some 19)) (g := 27) (args := #[.pointer (some ⟨ba0, 0, none⟩)]) (by kernel_rfl) (by kernel_rfl) (by kernel_rfl) (by kernel_rfl) (hrec_cond_reader__not (⟨t59, t99, t100, t66, t67⟩ : cond_reader) ba0 A60 c61 A68 c69 hS136 hs63 hE hr121) ?_
      rintro _ w137 ⟨Q117, Q118, Q119, Q120, rfl, hS138, hs139⟩
      have hS140 : St w0 Z (xrow Q119 Q120 53 6 (t116.flatMap enc_api_Node) :: xblk ba0 44 ([.slice Q117 t112.length Q118] ++ [.int .i64 t113] ++ (enc_api_Token t114) ++ [.int .i64 t115] ++ [.slice Q119 t116.length Q120]) :: fs) w137 := hS138
      have hs141 : SlZ (flat enc_api_Token) 7 Z Q117 Q118 t112 := hs139
      refine ⟨.int .i64 t111, rfl, ?_⟩
      refine sx_run 8 (todo' := [.inRegion (opsOf (cd14 [1, 1, 0, 0, 0, 1, 0, 1, 1])) [5, 6], .inBlock 1, .inLoop (cd14 [1, 1, 0, 0, 0]), .inBlock 0, .code (cd14 [1, 1, 1])]) (us := [(10, .int .i64 t111), (20, .pointer (some ⟨ba0, 0, none⟩)), (21, .int .i64 a2), (22, .int .i64 t58), (23, .int .i64 t111), (24, .agg (enc_api_Node (⟨a2, t58, t111, (⟨0, (⟨#[]⟩ : ByteArray)⟩ : api_Ref), 0⟩ : api_Node)).toArray)]) (by kernel_rfl) ?_
      obtain ⟨q148, hr146, hp147⟩ := bind_some' hp122
      rcases q148 with pe149 | ⟨t142, t143⟩
      ·skip
       try dsimp only at hp147
       have hS150 := hS140.pick1
       refine r_callX (c := (cd14 [1, 1, 0, 0, 0, 1, 0, 1, 1])) (i := 5) (d := (some 25)) (g := 26) (args := #[.pointer (some ⟨ba0, 0, none⟩), .agg (enc_api_Node (⟨a2, t58, t111, (⟨0, (⟨#[]⟩ : ByteArray)⟩ : api_Ref), 0⟩ : api_Node)).toArray]) (by kernel_rfl) (by kernel_rfl) (by kernel_rfl) (by kernel_rfl) (cond_reader__node.ok (⟨t112, t113, t114, t115, t116⟩ : cond_reader) (⟨a2, t58, t111, (⟨0, (⟨#[]⟩ : ByteArray)⟩ : api_Ref), 0⟩ : api_Node) ba0 Q117 Q118 Q119 Q120 hS150 hs141 hr146) ?_
       rintro _ w156 ⟨v151, Z152, hz153, rfl, hS154, he155⟩
       refine ⟨_, rfl, ?_⟩
       refine raised_fx Tryz.func14 ?_
       have hr158 := (hq80 _ (Option.some.inj hp147))
       cases hr158
       exact hR _ _ (panq_l ⟨v151, Z152, hz153, rfl, hS154, he155⟩)
      ·skip
       try dsimp only at hp147
       have hS160 := hS140.pick1
       refine r_call1 (c := (cd14 [1, 1, 0, 0, 0, 1, 0, 1, 1])) (i := 5) (d := (some 25)) (g := 26) (args := #[.pointer (some ⟨ba0, 0, none⟩), .agg (enc_api_Node (⟨a2, t58, t111, (⟨0, (⟨#[]⟩ : ByteArray)⟩ : api_Ref), 0⟩ : api_Node)).toArray]) (by kernel_rfl) (by kernel_rfl) (by kernel_rfl) (by kernel_rfl) (cond_reader__node.ok (⟨t112, t113, t114, t115, t116⟩ : cond_reader) (⟨a2, t58, t111, (⟨0, (⟨#[]⟩ : ByteArray)⟩ : api_Ref), 0⟩ : api_Node) ba0 Q117 Q118 Q119 Q120 hS160 hs141 hr146) ?_
       rintro _ w161 ⟨Q144, Q145, rfl, hS162⟩
       have hS163 : St w0 Z (xrow Q144 Q145 53 6 (t143.flatMap enc_api_Node) :: xblk ba0 44 ([.slice Q117 t112.length Q118] ++ [.int .i64 t113] ++ (enc_api_Token t114) ++ [.int .i64 t115] ++ [.slice Q144 t143.length Q145]) :: fs) w161 := hS162
       refine ⟨.int .i64 t142, rfl, ?_⟩
       refine sx_run 3 (todo' := [.inLoop (cd14 [1, 1, 0, 0, 0]), .inBlock 0, .code (cd14 [1, 1, 1])]) (us := [(9, .int .i64 t142)]) (by kernel_rfl) ?_
       have hS164 := hS163.pick1
       refine sx_run 1 (todo' := [.code (cd14 [1, 1, 0, 0, 0]), .inLoop (cd14 [1, 1, 0, 0, 0]), .inBlock 0, .code (cd14 [1, 1, 1])]) (us := []) (by kernel_rfl) ?_
       refine Runs.fill (m := [some (.pointer (some ⟨ba0, 0, none⟩)), some (.string a1), some (.int .i64 a2), some (.func (.func 27) #[.pointer (some ⟨ba0, 0, none⟩)] #[]), none, none, none, none, none, some (.int .i64 t142), none, none, none, none, none, none, none, none, none, none, none, none, none, none, none, none, none]) (by kernel_rfl) ?_
       exact ih77 t142 t112 t113 t114 t115 t143 _ hp147 he75 _ Q117 Q118 Q144 Q145 _ hS164 hs141
   have hS165 := hS32.pick1
   refine Runs.fill (m := [some (.pointer (some ⟨ba0, 0, none⟩)), some (.string a1), some (.int .i64 a2), some (.func (.func 27) #[.pointer (some ⟨ba0, 0, none⟩)] #[]), none, none, none, none, none, some (.int .i64 t1), none, none, none, none, none, none, none, none, none, none, none, none, none, none, none, none, none]) (by kernel_rfl) ?_
   exact L79 t1 t2 t3 t4 t5 t6 _ hv35 rfl _ Q7 Q8 Q9 Q10 _ hS165 hs33

noncomputable def cd15 (p : List Nat) : Code := sub (bodyOf Tryz.f15) p
def cond_reader__and_2.f (rec_cond_reader__not : cond_reader → Option (Sum PErr (Int × (List api_Token) × Int × api_Token × Int × (List api_Node)))) (a0v : cond_reader) : Option (Sum PErr (Int × (List api_Token) × Int × api_Token × Int × (List api_Node))) :=
  (cond_reader__chain_5.f rec_cond_reader__not (⟨a0v.l, a0v.at_, a0v.last, a0v.depth, a0v.c⟩ : cond_reader) (⟨#[47, 92]⟩ : ByteArray) 4 >>= (fun | .inl pe14 => some (.inl pe14) | .inr (t1, t2, t3, t4, t5, t6) => some (.inr (t1, t2, t3, t4, t5, t6))))
set_option maxHeartbeats 16000000 in
theorem cond_reader__and_2.ok (rec_cond_reader__not : cond_reader → Option (Sum PErr (Int × (List api_Token) × Int × api_Token × Int × (List api_Node)))) (hrec_cond_reader__not : cond_reader__not.Spec rec_cond_reader__not) (a0v : cond_reader) (ba0 : Nat) (Aa0v_0 : Option Addr) (ca0v_0 : Nat) (Aa0v_4 : Option Addr) (ca0v_4 : Nat) {w0 : World} {Z : Zm} {fs : List XObj} {w : World} (hS0 : St w0 Z (xblk ba0 44 ([.slice Aa0v_0 a0v.l.length ca0v_0] ++ [.int .i64 a0v.at_] ++ (enc_api_Token a0v.last) ++ [.int .i64 a0v.depth] ++ [.slice Aa0v_4 a0v.c.length ca0v_4]) :: xrow Aa0v_4 ca0v_4 53 6 (a0v.c.flatMap enc_api_Node) :: fs) w) (ha0v_0 : SlZ (flat enc_api_Token) 7 Z Aa0v_0 ca0v_0 a0v.l) (hE : Env Z) {qr : Sum PErr (Int × (List api_Token) × Int × api_Token × Int × (List api_Node))} (hp0 : cond_reader__and_2.f rec_cond_reader__not a0v = some qr) :
    Calls Tryz.prog 15 #[.pointer (some ⟨ba0, 0, none⟩)] w (fun e w' => PanQ (fun p => ∃ (v : Value) (Z' : Zm), Zm.Le Z Z' ∧ e = .panicked [{ v := v, recovered := false }] ∧ St w0 Z' fs w' ∧ RepE 39 40 Z' v p) (fun q => ∃ (QA0 : Option Addr) (Qc0 : Nat) (QA2 : Option Addr) (Qc2 : Nat), e = .returned (.int .i64 q.1) ∧ St w0 Z (xrow QA2 Qc2 53 6 (q.2.2.2.2.2.flatMap enc_api_Node) :: xblk ba0 44 ([.slice QA0 q.2.1.length Qc0] ++ [.int .i64 q.2.2.1] ++ (enc_api_Token q.2.2.2.1) ++ [.int .i64 q.2.2.2.2.1] ++ [.slice QA2 q.2.2.2.2.2.length Qc2]) :: fs) w' ∧ SlZ (flat enc_api_Token) 7 Z QA0 Qc0 q.2.1) qr) := by
  refine calls_abs ?_; intro R hR
  unfold cond_reader__and_2.f at hp0
  refine calls_of_runs (fn := Tryz.f15) (c := cd15 []) Tryz.func15 (by kernel_rfl) (al := [.pointer (some ⟨ba0, 0, none⟩)]) rfl (n := 6) rfl ?_
  refine sx_run 9 (todo' := [.inRegion (opsOf (cd15 [1, 0])) [3, 4], .code (cd15 [1, 1])]) (us := [(2, .int .i64 0), (3, .pointer (some ⟨ba0, 0, none⟩)), (4, .pointer (some ⟨ba0, 0, none⟩)), (5, .func (.func 27) #[.pointer (some ⟨ba0, 0, none⟩)] #[])]) (by kernel_rfl) ?_
  obtain ⟨q13, hr11, hp12⟩ := bind_some' hp0
  rcases q13 with pe14 | ⟨t1, t2, t3, t4, t5, t6⟩
  ·skip
   try dsimp only at hp12
   have hS15 := hS0.pick1
   have hS16 := hS15.pick1
   refine r_callX (c := (cd15 [1, 0])) (i := 3) (d := (some 6)) (g := 14) (args := #[.pointer (some ⟨ba0, 0, none⟩), .string (⟨#[47, 92]⟩ : ByteArray), .int .i64 4, .func (.func 27) #[.pointer (some ⟨ba0, 0, none⟩)] #[]]) (by kernel_rfl) (by kernel_rfl) (by kernel_rfl) (by kernel_rfl) (cond_reader__chain_5.ok rec_cond_reader__not hrec_cond_reader__not (⟨a0v.l, a0v.at_, a0v.last, a0v.depth, a0v.c⟩ : cond_reader) (⟨#[47, 92]⟩ : ByteArray) 4 ba0 Aa0v_0 ca0v_0 Aa0v_4 ca0v_4 hS16 ha0v_0 hE hr11) ?_
   rintro _ w22 ⟨v17, Z18, hz19, rfl, hS20, he21⟩
   refine ⟨_, rfl, ?_⟩
   refine raised_fx Tryz.func15 ?_
   have hr24 := (Option.some.inj hp12)
   cases hr24
   exact hR _ _ (panq_l ⟨v17, Z18, hz19, rfl, hS20, he21⟩)
  ·skip
   try dsimp only at hp12
   have hS27 := hS0.pick1
   have hS28 := hS27.pick1
   refine r_call1 (c := (cd15 [1, 0])) (i := 3) (d := (some 6)) (g := 14) (args := #[.pointer (some ⟨ba0, 0, none⟩), .string (⟨#[47, 92]⟩ : ByteArray), .int .i64 4, .func (.func 27) #[.pointer (some ⟨ba0, 0, none⟩)] #[]]) (by kernel_rfl) (by kernel_rfl) (by kernel_rfl) (by kernel_rfl) (cond_reader__chain_5.ok rec_cond_reader__not hrec_cond_reader__not (⟨a0v.l, a0v.at_, a0v.last, a0v.depth, a0v.c⟩ : cond_reader) (⟨#[47, 92]⟩ : ByteArray) 4 ba0 Aa0v_0 ca0v_0 Aa0v_4 ca0v_4 hS28 ha0v_0 hE hr11) ?_
   rintro _ w29 ⟨Q7, Q8, Q9, Q10, rfl, hS30, hs31⟩
   have hS32 : St w0 Z (xrow Q9 Q10 53 6 (t6.flatMap enc_api_Node) :: xblk ba0 44 ([.slice Q7 t2.length Q8] ++ [.int .i64 t3] ++ (enc_api_Token t4) ++ [.int .i64 t5] ++ [.slice Q9 t6.length Q10]) :: fs) w29 := hS30
   have hs33 : SlZ (flat enc_api_Token) 7 Z Q7 Q8 t2 := hs31
   refine ⟨.int .i64 t1, rfl, ?_⟩
   refine sx_run 2 (todo' := [.code (cd15 [1, 1])]) (us := [(2, .int .i64 t1)]) (by kernel_rfl) ?_
   refine runs_ret (fn := Tryz.f15) (v := .int .i64 t1) Tryz.func15 (by kernel_rfl) ?_
   have hr34 := (Option.some.inj hp12)
   cases hr34
   exact hR _ _ (panq_r ⟨Q7, Q8, Q9, Q10, rfl, hS32, hs33⟩)

def cond_reader__chain_4.l0 (rec_cond_reader__not : cond_reader → Option (Sum PErr (Int × (List api_Token) × Int × api_Token × Int × (List api_Node)))) (a1 : ByteArray) (a2 : Int) (t58 : Int) (t59 : List api_Token) (t64 : Int) (t65 : api_Token) (t66 : Int) (t67 : List api_Node) : Option (Sum (Int × (List api_Token) × Int × api_Token × Int × (List api_Node)) (Sum PErr (Int × (List api_Token) × Int × api_Token × Int × (List api_Node)))) :=
  (cond_reader__sees.f (⟨t59, t64, t65, t66, t67⟩ : cond_reader) 0 4 a1 >>= (fun t81 => (if t81 = true then (cond_reader__take.f (⟨t59, t64, t65, t66, t67⟩ : cond_reader) >>= (fun (t98, t99, t100) => (cond_reader__and_2.f rec_cond_reader__not (⟨t59, t99, t100, t66, t67⟩ : cond_reader) >>= (fun | .inl pe124 => some (.inr (.inl pe124)) | .inr (t111, t112, t113, t114, t115, t116) => (cond_reader__node.f (⟨t112, t113, t114, t115, t116⟩ : cond_reader) (⟨a2, t58, t111, (⟨0, (⟨#[]⟩ : ByteArray)⟩ : api_Ref), 0⟩ : api_Node) >>= (fun | .inl pe149 => some (.inr (.inl pe149)) | .inr (t142, t143) => (cond_reader__chain_4.l0 rec_cond_reader__not a1 a2 t142 t112 t113 t114 t115 t143))))))) else some (.inl (t58, t59, t64, t65, t66, t67)))))
 partial_fixpoint
def cond_reader__chain_4.f (rec_cond_reader__not : cond_reader → Option (Sum PErr (Int × (List api_Token) × Int × api_Token × Int × (List api_Node)))) (a0v : cond_reader) (a1 : ByteArray) (a2 : Int) : Option (Sum PErr (Int × (List api_Token) × Int × api_Token × Int × (List api_Node))) :=
  (cond_reader__and_2.f rec_cond_reader__not (⟨a0v.l, a0v.at_, a0v.last, a0v.depth, a0v.c⟩ : cond_reader) >>= (fun | .inl pe14 => some (.inl pe14) | .inr (t1, t2, t3, t4, t5, t6) => (cond_reader__chain_4.l0 rec_cond_reader__not a1 a2 t1 t2 t3 t4 t5 t6 >>= (fun | .inl (t37, t38, t43, t44, t45, t46) => some (.inr (t37, t38, t43, t44, t45, t46)) | .inr e => some e))))
set_option maxHeartbeats 16000000 in
theorem cond_reader__chain_4.ok (rec_cond_reader__not : cond_reader → Option (Sum PErr (Int × (List api_Token) × Int × api_Token × Int × (List api_Node)))) (hrec_cond_reader__not : cond_reader__not.Spec rec_cond_reader__not) (a0v : cond_reader) (a1 : ByteArray) (a2 : Int) (ba0 : Nat) (Aa0v_0 : Option Addr) (ca0v_0 : Nat) (Aa0v_4 : Option Addr) (ca0v_4 : Nat) {w0 : World} {Z : Zm} {fs : List XObj} {w : World} (hS0 : St w0 Z (xblk ba0 44 ([.slice Aa0v_0 a0v.l.length ca0v_0] ++ [.int .i64 a0v.at_] ++ (enc_api_Token a0v.last) ++ [.int .i64 a0v.depth] ++ [.slice Aa0v_4 a0v.c.length ca0v_4]) :: xrow Aa0v_4 ca0v_4 53 6 (a0v.c.flatMap enc_api_Node) :: fs) w) (ha0v_0 : SlZ (flat enc_api_Token) 7 Z Aa0v_0 ca0v_0 a0v.l) (hE : Env Z) {qr : Sum PErr (Int × (List api_Token) × Int × api_Token × Int × (List api_Node))} (hp0 : cond_reader__chain_4.f rec_cond_reader__not a0v a1 a2 = some qr) :
    Calls Tryz.prog 14 #[.pointer (some ⟨ba0, 0, none⟩), .string a1, .int .i64 a2, .func (.func 15) #[.pointer (some ⟨ba0, 0, none⟩)] #[]] w (fun e w' => PanQ (fun p => ∃ (v : Value) (Z' : Zm), Zm.Le Z Z' ∧ e = .panicked [{ v := v, recovered := false }] ∧ St w0 Z' fs w' ∧ RepE 39 40 Z' v p) (fun q => ∃ (QA0 : Option Addr) (Qc0 : Nat) (QA2 : Option Addr) (Qc2 : Nat), e = .returned (.int .i64 q.1) ∧ St w0 Z (xrow QA2 Qc2 53 6 (q.2.2.2.2.2.flatMap enc_api_Node) :: xblk ba0 44 ([.slice QA0 q.2.1.length Qc0] ++ [.int .i64 q.2.2.1] ++ (enc_api_Token q.2.2.2.1) ++ [.int .i64 q.2.2.2.2.1] ++ [.slice QA2 q.2.2.2.2.2.length Qc2]) :: fs) w' ∧ SlZ (flat enc_api_Token) 7 Z QA0 Qc0 q.2.1) qr) := by
  refine calls_abs ?_; intro R hR
  unfold cond_reader__chain_4.f at hp0
  refine calls_of_runs (fn := Tryz.f14) (c := cd14 []) Tryz.func14 (by kernel_rfl) (al := [.pointer (some ⟨ba0, 0, none⟩), .string a1, .int .i64 a2, .func (.func 15) #[.pointer (some ⟨ba0, 0, none⟩)] #[]]) rfl (n := 23) rfl ?_
  refine sx_run 7 (todo' := [.inRegion (opsOf (cd14 [1, 0])) [1, 2], .code (cd14 [1, 1])]) (us := [(8, .int .i64 0), (11, .func (.func 15) #[.pointer (some ⟨ba0, 0, none⟩)] #[])]) (by kernel_rfl) ?_
  obtain ⟨q13, hr11, hp12⟩ := bind_some' hp0
  rcases q13 with pe14 | ⟨t1, t2, t3, t4, t5, t6⟩
  ·skip
   try dsimp only at hp12
   have hS15 := hS0.pick1
   have hS16 := hS15.pick1
   refine r_callX (c := (cd14 [1, 0])) (i := 1) (d := (some 12)) (g := 15) (args := #[.pointer (some ⟨ba0, 0, none⟩)]) (by kernel_rfl) (by kernel_rfl) (by kernel_rfl) (by kernel_rfl) (cond_reader__and_2.ok rec_cond_reader__not hrec_cond_reader__not (⟨a0v.l, a0v.at_, a0v.last, a0v.depth, a0v.c⟩ : cond_reader) ba0 Aa0v_0 ca0v_0 Aa0v_4 ca0v_4 hS16 ha0v_0 hE hr11) ?_
   rintro _ w22 ⟨v17, Z18, hz19, rfl, hS20, he21⟩
   refine ⟨_, rfl, ?_⟩
   refine raised_fx Tryz.func14 ?_
   have hr24 := (Option.some.inj hp12)
   cases hr24
   exact hR _ _ (panq_l ⟨v17, Z18, hz19, rfl, hS20, he21⟩)
  ·skip
   try dsimp only at hp12
   have hS27 := hS0.pick1
   have hS28 := hS27.pick1
   refine r_call1 (c := (cd14 [1, 0])) (i := 1) (d := (some 12)) (g := 15) (args := #[.pointer (some ⟨ba0, 0, none⟩)]) (by kernel_rfl) (by kernel_rfl) (by kernel_rfl) (by kernel_rfl) (cond_reader__and_2.ok rec_cond_reader__not hrec_cond_reader__not (⟨a0v.l, a0v.at_, a0v.last, a0v.depth, a0v.c⟩ : cond_reader) ba0 Aa0v_0 ca0v_0 Aa0v_4 ca0v_4 hS28 ha0v_0 hE hr11) ?_
   rintro _ w29 ⟨Q7, Q8, Q9, Q10, rfl, hS30, hs31⟩
   have hS32 : St w0 Z (xrow Q9 Q10 53 6 (t6.flatMap enc_api_Node) :: xblk ba0 44 ([.slice Q7 t2.length Q8] ++ [.int .i64 t3] ++ (enc_api_Token t4) ++ [.int .i64 t5] ++ [.slice Q9 t6.length Q10]) :: fs) w29 := hS30
   have hs33 : SlZ (flat enc_api_Token) 7 Z Q7 Q8 t2 := hs31
   refine ⟨.int .i64 t1, rfl, ?_⟩
   refine sx_run 5 (todo' := [.code (cd14 [1, 1, 0, 0, 0]), .inLoop (cd14 [1, 1, 0, 0, 0]), .inBlock 0, .code (cd14 [1, 1, 1])]) (us := [(9, .int .i64 t1)]) (by kernel_rfl) ?_
   obtain ⟨v34, hv35, hp36⟩ := bind_some' hp12
   have hq52 : ∀ x, Sum.inr x = v34 → x = qr := by intro x hx; subst hx; simpa using hp36
   have J53 : ∀ (t37 : Int) (t38 : List api_Token) (t43 : Int) (t44 : api_Token) (t45 : Int) (t46 : List api_Node) (he55 : Sum.inl (t37, t38, t43, t44, t45, t46) = v34) (l54 : List Value) (A39 : Option Addr) (c40 : Nat) (A47 : Option Addr) (c48 : Nat) (w50 : World) (hS51 : St w0 Z (xblk ba0 44 ([.slice A39 t38.length c40] ++ [.int .i64 t43] ++ (enc_api_Token t44) ++ [.int .i64 t45] ++ [.slice A47 t46.length c48]) :: xrow A47 c48 53 6 (t46.flatMap enc_api_Node) :: fs) w50) (hs42 : SlZ (flat enc_api_Token) 7 Z A39 c40 t38), Runs Tryz.prog (fx 14) [.code (cd14 [1, 1, 1])] (fill [none, none, none, none, none, none, none, none, none, some (.int .i64 t37), none, none, none, none, none, none, none, none, none, none, none, none, none, none, none, none, none] l54) w50 R := by
    intro t37 t38 t43 t44 t45 t46 he55 l54 A39 c40 A47 c48 w50 hS51 hs42
    subst he55
    try dsimp only at hp36
    refine sx_run 5 (todo' := [.code (cd14 [1, 1, 1, 1])]) (us := [(26, .int .i64 t37), (8, .int .i64 t37)]) (by kernel_rfl) ?_
    have hS56 := hS51.pick1
    refine runs_ret (fn := Tryz.f14) (v := .int .i64 t37) Tryz.func14 (by kernel_rfl) ?_
    have hr57 := (Option.some.inj hp36)
    cases hr57
    exact hR _ _ (panq_r ⟨A39, c40, A47, c48, rfl, hS56, hs42⟩)
   have L79 : ∀ (t58 : Int) (t59 : List api_Token) (t64 : Int) (t65 : api_Token) (t66 : Int) (t67 : List api_Node) (e74 : Sum (Int × (List api_Token) × Int × api_Token × Int × (List api_Node)) (Sum PErr (Int × (List api_Token) × Int × api_Token × Int × (List api_Node)))), cond_reader__chain_4.l0 rec_cond_reader__not a1 a2 t58 t59 t64 t65 t66 t67 = some e74 → e74 = v34 → ∀ (l73 : List Value) (A60 : Option Addr) (c61 : Nat) (A68 : Option Addr) (c69 : Nat) (w71 : World) (hS72 : St w0 Z (xblk ba0 44 ([.slice A60 t59.length c61] ++ [.int .i64 t64] ++ (enc_api_Token t65) ++ [.int .i64 t66] ++ [.slice A68 t67.length c69]) :: xrow A68 c69 53 6 (t67.flatMap enc_api_Node) :: fs) w71) (hs63 : SlZ (flat enc_api_Token) 7 Z A60 c61 t59), Runs Tryz.prog (fx 14) [.code (cd14 [1, 1, 0, 0, 0]), .inLoop (cd14 [1, 1, 0, 0, 0]), .inBlock 0, .code (cd14 [1, 1, 1])] (fill [some (.pointer (some ⟨ba0, 0, none⟩)), some (.string a1), some (.int .i64 a2), some (.func (.func 15) #[.pointer (some ⟨ba0, 0, none⟩)] #[]), none, none, none, none, none, some (.int .i64 t58), none, none, none, none, none, none, none, none, none, none, none, none, none, none, none, none, none] l73) w71 R := by
    refine cond_reader__chain_4.l0.partial_correctness rec_cond_reader__not a1 a2 (fun t58 t59 t64 t65 t66 t67 e74 => e74 = v34 → ∀ (l73 : List Value) (A60 : Option Addr) (c61 : Nat) (A68 : Option Addr) (c69 : Nat) (w71 : World) (hS72 : St w0 Z (xblk ba0 44 ([.slice A60 t59.length c61] ++ [.int .i64 t64] ++ (enc_api_Token t65) ++ [.int .i64 t66] ++ [.slice A68 t67.length c69]) :: xrow A68 c69 53 6 (t67.flatMap enc_api_Node) :: fs) w71) (hs63 : SlZ (flat enc_api_Token) 7 Z A60 c61 t59), Runs Tryz.prog (fx 14) [.code (cd14 [1, 1, 0, 0, 0]), .inLoop (cd14 [1, 1, 0, 0, 0]), .inBlock 0, .code (cd14 [1, 1, 1])] (fill [some (.pointer (some ⟨ba0, 0, none⟩)), some (.string a1), some (.int .i64 a2), some (.func (.func 15) #[.pointer (some ⟨ba0, 0, none⟩)] #[]), none, none, none, none, none, some (.int .i64 t58), none, none, none, none, none, none, none, none, none, none, none, none, none, none, none, none, none] l73) w71 R) ?_
    intro rec78 ih77 t58 t59 t64 t65 t66 t67 e74 hb76 he75 l73 A60 c61 A68 c69 w71 hS72 hs63
    have hq80 : ∀ x, Sum.inr x = e74 → x = qr := fun x hx => hq52 x (hx.trans he75)
    refine sx_run 5 (todo' := [.inRegion (opsOf (cd14 [1, 1, 0, 0, 0, 0, 0])) [2], .code (cd14 [1, 1, 0, 0, 0, 0, 1]), .code (cd14 [1, 1, 0, 0, 0, 1]), .inLoop (cd14 [1, 1, 0, 0, 0]), .inBlock 0, .code (cd14 [1, 1, 1])]) (us := [(13, .pointer (some ⟨ba0, 0, none⟩)), (14, .string a1)]) (by kernel_rfl) ?_
    obtain ⟨t81, hr82, hp83⟩ := bind_some' hb76
    have hS86 := hS72.pick1
    obtain ⟨Z87, hz88, hS89, hs90, hb91⟩ := hS86.lendrow len_api_Node (by omega)
    refine r_call1 (c := (cd14 [1, 1, 0, 0, 0, 0, 0])) (i := 2) (d := (some 15)) (g := 24) (args := #[.pointer (some ⟨ba0, 0, none⟩), .int .i64 0, .int .i64 4, .string a1]) (by kernel_rfl) (by kernel_rfl) (by kernel_rfl) (by kernel_rfl) (cond_reader__sees.ok (⟨t59, t64, t65, t66, t67⟩ : cond_reader) 0 4 a1 ba0 A60 c61 A68 c69 hS89 (hs63.up hz88) hs90 hr82) ?_
    rintro _ w92 ⟨rfl, hS93⟩
    refine ⟨.bool t81, rfl, ?_⟩
    have hS94 := hb91 _ _ hS93
    refine sx_run 1 (todo' := [.code (cd14 [1, 1, 0, 0, 0, 0, 1]), .code (cd14 [1, 1, 0, 0, 0, 1]), .inLoop (cd14 [1, 1, 0, 0, 0]), .inBlock 0, .code (cd14 [1, 1, 1])]) (us := []) (by kernel_rfl) ?_
    cases t81
    ·skip
     have hp95 := ite_f hp83 rfl
     refine sx_run 2 (todo' := [.code (cd14 [1, 1, 1])]) (us := []) (by kernel_rfl) ?_
     have hS96 := hS94.pick1
     refine Runs.fill (m := [none, none, none, none, none, none, none, none, none, some (.int .i64 t58), none, none, none, none, none, none, none, none, none, none, none, none, none, none, none, none, none]) (by kernel_rfl) ?_
     exact J53 t58 t59 t64 t65 t66 t67 ((Option.some.inj hp95).trans he75) _ A60 c61 A68 c69 _ hS96 hs63
    ·skip
     have hp97 := ite_t hp83 rfl
     refine sx_run 6 (todo' := [.inRegion (opsOf (cd14 [1, 1, 0, 0, 0, 1, 0, 0])) [1], .code (cd14 [1, 1, 0, 0, 0, 1, 0, 1]), .inBlock 1, .inLoop (cd14 [1, 1, 0, 0, 0]), .inBlock 0, .code (cd14 [1, 1, 1])]) (us := [(16, .pointer (some ⟨ba0, 0, none⟩))]) (by kernel_rfl) ?_
     obtain ⟨⟨t98, t99, t100⟩, hr101, hp102⟩ := bind_some' hp97
     try dsimp only at hp102
     obtain ⟨Z103, hz104, hS105, hs106, hb107⟩ := hS94.lendrow len_api_Node (by omega)
     refine r_call1 (c := (cd14 [1, 1, 0, 0, 0, 1, 0, 0])) (i := 1) (d := (some 17)) (g := 25) (args := #[.pointer (some ⟨ba0, 0, none⟩)]) (by kernel_rfl) (by kernel_rfl) (by kernel_rfl) (by kernel_rfl) (cond_reader__take.ok (⟨t59, t64, t65, t66, t67⟩ : cond_reader) ba0 A60 c61 A68 c69 hS105 (hs63.up hz104) hs106 hr101) ?_
     rintro _ w108 ⟨rfl, hS109⟩
     refine ⟨.agg (enc_api_Token t98).toArray, rfl, ?_⟩
     have hS110 := hb107 _ _ hS109
     refine sx_run 4 (todo' := [.inRegion (opsOf (cd14 [1, 1, 0, 0, 0, 1, 0, 1, 0])) [1, 2], .code (cd14 [1, 1, 0, 0, 0, 1, 0, 1, 1]), .inBlock 1, .inLoop (cd14 [1, 1, 0, 0, 0]), .inBlock 0, .code (cd14 [1, 1, 1])]) (us := [(18, .func (.func 15) #[.pointer (some ⟨ba0, 0, none⟩)] #[])]) (by kernel_rfl) ?_
     obtain ⟨q123, hr121, hp122⟩ := bind_some' hp102
     rcases q123 with pe124 | ⟨t111, t112, t113, t114, t115, t116⟩
     ·skip
      try dsimp only at hp122
      have hS125 := hS110.pick1
      refine r_callX (c := (cd14 [1, 1, 0, 0, 0, 1, 0, 1, 0])) (i := 1) (d := (some 19)) (g := 15) (args := #[.pointer (some ⟨ba0, 0, none⟩)]) (by kernel_rfl) (by kernel_rfl) (by kernel_rfl) (by kernel_rfl) (cond_reader__and_2.ok rec_cond_reader__not hrec_cond_reader__not (⟨t59, t99, t100, t66, t67⟩ : cond_reader) ba0 A60 c61 A68 c69 hS125 hs63 hE hr121) ?_
      rintro _ w131 ⟨v126, Z127, hz128, rfl, hS129, he130⟩
      refine ⟨_, rfl, ?_⟩
      refine raised_fx Tryz.func14 ?_
      have hr133 := (hq80 _ (Option.some.inj hp122))
      cases hr133
      exact hR _ _ (panq_l ⟨v126, Z127, hz128, rfl, hS129, he130⟩)
     ·skip
      try dsimp only at hp122
      have hS136 := hS110.pick1
      refine r_call1 (c := (cd14 [1, 1, 0, 0, 0, 1, 0, 1, 0])) (i := 1) (d := (some 19)) (g := 15) (args := #[.pointer (some ⟨ba0, 0, none⟩)]) (by kernel_rfl) (by kernel_rfl) (by kernel_rfl) (by kernel_rfl) (cond_reader__and_2.ok rec_cond_reader__not hrec_cond_reader__not (⟨t59, t99, t100, t66, t67⟩ : cond_reader) ba0 A60 c61 A68 c69 hS136 hs63 hE hr121) ?_
      rintro _ w137 ⟨Q117, Q118, Q119, Q120, rfl, hS138, hs139⟩
      have hS140 : St w0 Z (xrow Q119 Q120 53 6 (t116.flatMap enc_api_Node) :: xblk ba0 44 ([.slice Q117 t112.length Q118] ++ [.int .i64 t113] ++ (enc_api_Token t114) ++ [.int .i64 t115] ++ [.slice Q119 t116.length Q120]) :: fs) w137 := hS138
      have hs141 : SlZ (flat enc_api_Token) 7 Z Q117 Q118 t112 := hs139
      refine ⟨.int .i64 t111, rfl, ?_⟩
      refine sx_run 8 (todo' := [.inRegion (opsOf (cd14 [1, 1, 0, 0, 0, 1, 0, 1, 1])) [5, 6], .inBlock 1, .inLoop (cd14 [1, 1, 0, 0, 0]), .inBlock 0, .code (cd14 [1, 1, 1])]) (us := [(10, .int .i64 t111), (20, .pointer (some ⟨ba0, 0, none⟩)), (21, .int .i64 a2), (22, .int .i64 t58), (23, .int .i64 t111), (24, .agg (enc_api_Node (⟨a2, t58, t111, (⟨0, (⟨#[]⟩ : ByteArray)⟩ : api_Ref), 0⟩ : api_Node)).toArray)]) (by kernel_rfl) ?_
      obtain ⟨q148, hr146, hp147⟩ := bind_some' hp122
      rcases q148 with pe149 | ⟨t142, t143⟩
      ·skip
       try dsimp only at hp147
       have hS150 := hS140.pick1
       refine r_callX (c := (cd14 [1, 1, 0, 0, 0, 1, 0, 1, 1])) (i := 5) (d := (some 25)) (g := 26) (args := #[.pointer (some ⟨ba0, 0, none⟩), .agg (enc_api_Node (⟨a2, t58, t111, (⟨0, (⟨#[]⟩ : ByteArray)⟩ : api_Ref), 0⟩ : api_Node)).toArray]) (by kernel_rfl) (by kernel_rfl) (by kernel_rfl) (by kernel_rfl) (cond_reader__node.ok (⟨t112, t113, t114, t115, t116⟩ : cond_reader) (⟨a2, t58, t111, (⟨0, (⟨#[]⟩ : ByteArray)⟩ : api_Ref), 0⟩ : api_Node) ba0 Q117 Q118 Q119 Q120 hS150 hs141 hr146) ?_
       rintro _ w156 ⟨v151, Z152, hz153, rfl, hS154, he155⟩
       refine ⟨_, rfl, ?_⟩
       refine raised_fx Tryz.func14 ?_
       have hr158 := (hq80 _ (Option.some.inj hp147))
       cases hr158
       exact hR _ _ (panq_l ⟨v151, Z152, hz153, rfl, hS154, he155⟩)
      ·skip
       try dsimp only at hp147
       have hS160 := hS140.pick1
       refine r_call1 (c := (cd14 [1, 1, 0, 0, 0, 1, 0, 1, 1])) (i := 5) (d := (some 25)) (g := 26) (args := #[.pointer (some ⟨ba0, 0, none⟩), .agg (enc_api_Node (⟨a2, t58, t111, (⟨0, (⟨#[]⟩ : ByteArray)⟩ : api_Ref), 0⟩ : api_Node)).toArray]) (by kernel_rfl) (by kernel_rfl) (by kernel_rfl) (by kernel_rfl) (cond_reader__node.ok (⟨t112, t113, t114, t115, t116⟩ : cond_reader) (⟨a2, t58, t111, (⟨0, (⟨#[]⟩ : ByteArray)⟩ : api_Ref), 0⟩ : api_Node) ba0 Q117 Q118 Q119 Q120 hS160 hs141 hr146) ?_
       rintro _ w161 ⟨Q144, Q145, rfl, hS162⟩
       have hS163 : St w0 Z (xrow Q144 Q145 53 6 (t143.flatMap enc_api_Node) :: xblk ba0 44 ([.slice Q117 t112.length Q118] ++ [.int .i64 t113] ++ (enc_api_Token t114) ++ [.int .i64 t115] ++ [.slice Q144 t143.length Q145]) :: fs) w161 := hS162
       refine ⟨.int .i64 t142, rfl, ?_⟩
       refine sx_run 3 (todo' := [.inLoop (cd14 [1, 1, 0, 0, 0]), .inBlock 0, .code (cd14 [1, 1, 1])]) (us := [(9, .int .i64 t142)]) (by kernel_rfl) ?_
       have hS164 := hS163.pick1
       refine sx_run 1 (todo' := [.code (cd14 [1, 1, 0, 0, 0]), .inLoop (cd14 [1, 1, 0, 0, 0]), .inBlock 0, .code (cd14 [1, 1, 1])]) (us := []) (by kernel_rfl) ?_
       refine Runs.fill (m := [some (.pointer (some ⟨ba0, 0, none⟩)), some (.string a1), some (.int .i64 a2), some (.func (.func 15) #[.pointer (some ⟨ba0, 0, none⟩)] #[]), none, none, none, none, none, some (.int .i64 t142), none, none, none, none, none, none, none, none, none, none, none, none, none, none, none, none, none]) (by kernel_rfl) ?_
       exact ih77 t142 t112 t113 t114 t115 t143 _ hp147 he75 _ Q117 Q118 Q144 Q145 _ hS164 hs141
   have hS165 := hS32.pick1
   refine Runs.fill (m := [some (.pointer (some ⟨ba0, 0, none⟩)), some (.string a1), some (.int .i64 a2), some (.func (.func 15) #[.pointer (some ⟨ba0, 0, none⟩)] #[]), none, none, none, none, none, some (.int .i64 t1), none, none, none, none, none, none, none, none, none, none, none, none, none, none, none, none, none]) (by kernel_rfl) ?_
   exact L79 t1 t2 t3 t4 t5 t6 _ hv35 rfl _ Q7 Q8 Q9 Q10 _ hS165 hs33

noncomputable def cd10 (p : List Nat) : Code := sub (bodyOf Tryz.f10) p
def cond_reader__cond_2.f (rec_cond_reader__not : cond_reader → Option (Sum PErr (Int × (List api_Token) × Int × api_Token × Int × (List api_Node)))) (a0v : cond_reader) : Option (Sum PErr (Int × (List api_Token) × Int × api_Token × Int × (List api_Node))) :=
  (cond_reader__chain_4.f rec_cond_reader__not (⟨a0v.l, a0v.at_, a0v.last, a0v.depth, a0v.c⟩ : cond_reader) (⟨#[92, 47]⟩ : ByteArray) 5 >>= (fun | .inl pe14 => some (.inl pe14) | .inr (t1, t2, t3, t4, t5, t6) => some (.inr (t1, t2, t3, t4, t5, t6))))
set_option maxHeartbeats 16000000 in
theorem cond_reader__cond_2.ok (rec_cond_reader__not : cond_reader → Option (Sum PErr (Int × (List api_Token) × Int × api_Token × Int × (List api_Node)))) (hrec_cond_reader__not : cond_reader__not.Spec rec_cond_reader__not) (a0v : cond_reader) (ba0 : Nat) (Aa0v_0 : Option Addr) (ca0v_0 : Nat) (Aa0v_4 : Option Addr) (ca0v_4 : Nat) {w0 : World} {Z : Zm} {fs : List XObj} {w : World} (hS0 : St w0 Z (xblk ba0 44 ([.slice Aa0v_0 a0v.l.length ca0v_0] ++ [.int .i64 a0v.at_] ++ (enc_api_Token a0v.last) ++ [.int .i64 a0v.depth] ++ [.slice Aa0v_4 a0v.c.length ca0v_4]) :: xrow Aa0v_4 ca0v_4 53 6 (a0v.c.flatMap enc_api_Node) :: fs) w) (ha0v_0 : SlZ (flat enc_api_Token) 7 Z Aa0v_0 ca0v_0 a0v.l) (hE : Env Z) {qr : Sum PErr (Int × (List api_Token) × Int × api_Token × Int × (List api_Node))} (hp0 : cond_reader__cond_2.f rec_cond_reader__not a0v = some qr) :
    Calls Tryz.prog 10 #[.pointer (some ⟨ba0, 0, none⟩)] w (fun e w' => PanQ (fun p => ∃ (v : Value) (Z' : Zm), Zm.Le Z Z' ∧ e = .panicked [{ v := v, recovered := false }] ∧ St w0 Z' fs w' ∧ RepE 39 40 Z' v p) (fun q => ∃ (QA0 : Option Addr) (Qc0 : Nat) (QA2 : Option Addr) (Qc2 : Nat), e = .returned (.int .i64 q.1) ∧ St w0 Z (xrow QA2 Qc2 53 6 (q.2.2.2.2.2.flatMap enc_api_Node) :: xblk ba0 44 ([.slice QA0 q.2.1.length Qc0] ++ [.int .i64 q.2.2.1] ++ (enc_api_Token q.2.2.2.1) ++ [.int .i64 q.2.2.2.2.1] ++ [.slice QA2 q.2.2.2.2.2.length Qc2]) :: fs) w' ∧ SlZ (flat enc_api_Token) 7 Z QA0 Qc0 q.2.1) qr) := by
  refine calls_abs ?_; intro R hR
  unfold cond_reader__cond_2.f at hp0
  refine calls_of_runs (fn := Tryz.f10) (c := cd10 []) Tryz.func10 (by kernel_rfl) (al := [.pointer (some ⟨ba0, 0, none⟩)]) rfl (n := 6) rfl ?_
  refine sx_run 9 (todo' := [.inRegion (opsOf (cd10 [1, 0])) [3, 4], .code (cd10 [1, 1])]) (us := [(2, .int .i64 0), (3, .pointer (some ⟨ba0, 0, none⟩)), (4, .pointer (some ⟨ba0, 0, none⟩)), (5, .func (.func 15) #[.pointer (some ⟨ba0, 0, none⟩)] #[])]) (by kernel_rfl) ?_
  obtain ⟨q13, hr11, hp12⟩ := bind_some' hp0
  rcases q13 with pe14 | ⟨t1, t2, t3, t4, t5, t6⟩
  ·skip
   try dsimp only at hp12
   have hS15 := hS0.pick1
   have hS16 := hS15.pick1
   refine r_callX (c := (cd10 [1, 0])) (i := 3) (d := (some 6)) (g := 14) (args := #[.pointer (some ⟨ba0, 0, none⟩), .string (⟨#[92, 47]⟩ : ByteArray), .int .i64 5, .func (.func 15) #[.pointer (some ⟨ba0, 0, none⟩)] #[]]) (by kernel_rfl) (by kernel_rfl) (by kernel_rfl) (by kernel_rfl) (cond_reader__chain_4.ok rec_cond_reader__not hrec_cond_reader__not (⟨a0v.l, a0v.at_, a0v.last, a0v.depth, a0v.c⟩ : cond_reader) (⟨#[92, 47]⟩ : ByteArray) 5 ba0 Aa0v_0 ca0v_0 Aa0v_4 ca0v_4 hS16 ha0v_0 hE hr11) ?_
   rintro _ w22 ⟨v17, Z18, hz19, rfl, hS20, he21⟩
   refine ⟨_, rfl, ?_⟩
   refine raised_fx Tryz.func10 ?_
   have hr24 := (Option.some.inj hp12)
   cases hr24
   exact hR _ _ (panq_l ⟨v17, Z18, hz19, rfl, hS20, he21⟩)
  ·skip
   try dsimp only at hp12
   have hS27 := hS0.pick1
   have hS28 := hS27.pick1
   refine r_call1 (c := (cd10 [1, 0])) (i := 3) (d := (some 6)) (g := 14) (args := #[.pointer (some ⟨ba0, 0, none⟩), .string (⟨#[92, 47]⟩ : ByteArray), .int .i64 5, .func (.func 15) #[.pointer (some ⟨ba0, 0, none⟩)] #[]]) (by kernel_rfl) (by kernel_rfl) (by kernel_rfl) (by kernel_rfl) (cond_reader__chain_4.ok rec_cond_reader__not hrec_cond_reader__not (⟨a0v.l, a0v.at_, a0v.last, a0v.depth, a0v.c⟩ : cond_reader) (⟨#[92, 47]⟩ : ByteArray) 5 ba0 Aa0v_0 ca0v_0 Aa0v_4 ca0v_4 hS28 ha0v_0 hE hr11) ?_
   rintro _ w29 ⟨Q7, Q8, Q9, Q10, rfl, hS30, hs31⟩
   have hS32 : St w0 Z (xrow Q9 Q10 53 6 (t6.flatMap enc_api_Node) :: xblk ba0 44 ([.slice Q7 t2.length Q8] ++ [.int .i64 t3] ++ (enc_api_Token t4) ++ [.int .i64 t5] ++ [.slice Q9 t6.length Q10]) :: fs) w29 := hS30
   have hs33 : SlZ (flat enc_api_Token) 7 Z Q7 Q8 t2 := hs31
   refine ⟨.int .i64 t1, rfl, ?_⟩
   refine sx_run 2 (todo' := [.code (cd10 [1, 1])]) (us := [(2, .int .i64 t1)]) (by kernel_rfl) ?_
   refine runs_ret (fn := Tryz.f10) (v := .int .i64 t1) Tryz.func10 (by kernel_rfl) ?_
   have hr34 := (Option.some.inj hp12)
   cases hr34
   exact hR _ _ (panq_r ⟨Q7, Q8, Q9, Q10, rfl, hS32, hs33⟩)

end
end Go.Proofs.YtdcdpigneonedaaGreatDoor.K
