/- The walk, part 3: each Go function as a plain Lean function, and that its call answers as that function says. No condition. -/
import Derived.Test.YtdcdpigneonedaaGreatDoorE
import Derived.Test.YtdcdpigneonedaaGreatDoorNG
import Derived.Test.YtdcdpigneonedaaGreatDoorNP
import Derived.Test.YtdcdpigneonedaaGreatDoorNM
import Derived.Test.YtdcdpigneonedaaGreatDoorNI
import Derived.Test.YtdcdpigneonedaaGreatDoorNV
import Derived.Test.YtdcdpigneonedaaGreatDoorNX
import Derived.Test.YtdcdpigneonedaaGreatDoorNA
import Derived.Test.YtdcdpigneonedaaGreatDoorF2
set_option linter.unusedVariables false
set_option linter.unusedSimpArgs false
set_option maxRecDepth 100000
namespace Go.Proofs.YtdcdpigneonedaaGreatDoor.K
open Go Go.RowKit
noncomputable section
noncomputable def cd44 (p : List Nat) : Code := sub (bodyOf Tryz.f44) p
def weirref06_reader__name.f (a0v : weirref06_reader) : Option (ByteArray × Int × api_Token × weirref05_Fault) :=
  (weirref06_reader__bad.f (⟨a0v.L, a0v.At, a0v.Last, a0v.Deep, a0v.C, a0v.F⟩ : weirref06_reader) >>= (fun t1 => (if t1 = true then (weirref06_reader__syntax.f (⟨a0v.L, a0v.At, a0v.Last, a0v.Deep, a0v.C, a0v.F⟩ : weirref06_reader) >>= (fun t71 => some (((⟨#[]⟩ : ByteArray), a0v.At, a0v.Last, t71)))) else (if (decide (a0v.At ≥ (a0v.L.length : Int))) = true then (weirref06_reader__syntax.f (⟨a0v.L, a0v.At, a0v.Last, a0v.Deep, a0v.C, a0v.F⟩ : weirref06_reader) >>= (fun t12 => some (((⟨#[]⟩ : ByteArray), a0v.At, a0v.Last, t12)))) else (if 0 ≤ a0v.At ∧ a0v.At < (a0v.L.length : Int) then (if (((gt a0v.L a0v.At).Kind) != 1) = true then (weirref06_reader__syntax.f (⟨a0v.L, a0v.At, a0v.Last, a0v.Deep, a0v.C, a0v.F⟩ : weirref06_reader) >>= (fun t30 => some (((⟨#[]⟩ : ByteArray), a0v.At, a0v.Last, t30)))) else (if 0 ≤ a0v.At ∧ a0v.At < (a0v.L.length : Int) then (weirref05_Name.f ((gt a0v.L a0v.At).Text) >>= (fun t43 => (if (!t43) = true then (weirref06_reader__syntax.f (⟨a0v.L, a0v.At, a0v.Last, a0v.Deep, a0v.C, a0v.F⟩ : weirref06_reader) >>= (fun t51 => some (((⟨#[]⟩ : ByteArray), a0v.At, a0v.Last, t51)))) else (weirref06_reader__take.f (⟨a0v.L, a0v.At, a0v.Last, a0v.Deep, a0v.C, a0v.F⟩ : weirref06_reader) >>= (fun (t60, t61, t62) => some ((t60.Text, t61, t62, a0v.F))))))) else none)) else none)))))
set_option maxHeartbeats 16000000 in
theorem weirref06_reader__name.ok (a0v : weirref06_reader) (ba0 : Nat) (Aa0v_0 : Option Addr) (ca0v_0 : Nat) (Aa0v_4 : Option Addr) (ca0v_4 : Nat) {w0 : World} {Z : Zm} {fs : List XObj} {w : World} (hS0 : St w0 Z (xblk ba0 48 ([.slice Aa0v_0 a0v.L.length ca0v_0] ++ [.int .i64 a0v.At] ++ (enc_api_Token a0v.Last) ++ [.int .i64 a0v.Deep] ++ [.slice Aa0v_4 a0v.C.length ca0v_4] ++ (enc_weirref05_Fault a0v.F)) :: fs) w) (ha0v_0 : SlZ (flat enc_api_Token) 7 Z Aa0v_0 ca0v_0 a0v.L) (ha0v_4 : SlZ (flat enc_api_Node) 6 Z Aa0v_4 ca0v_4 a0v.C) {q0 : ByteArray} {q1 : Int} {q2 : api_Token} {q3 : weirref05_Fault} (hp0 : weirref06_reader__name.f a0v = some (q0, q1, q2, q3)) :
    Calls Tryz.prog 44 #[.pointer (some ⟨ba0, 0, none⟩)] w (fun e w' => e = .returned (.string q0) ∧ St w0 Z (xblk ba0 48 ([.slice Aa0v_0 a0v.L.length ca0v_0] ++ [.int .i64 q1] ++ (enc_api_Token q2) ++ [.int .i64 a0v.Deep] ++ [.slice Aa0v_4 a0v.C.length ca0v_4] ++ (enc_weirref05_Fault q3)) :: fs) w') := by
  refine calls_abs ?_; intro R hR
  unfold weirref06_reader__name.f at hp0
  refine calls_of_runs (fn := Tryz.f44) (c := cd44 []) Tryz.func44 (by kernel_rfl) (al := [.pointer (some ⟨ba0, 0, none⟩)]) rfl (n := 50) rfl ?_
  refine sx_run 6 (todo' := [.code (cd44 [1, 0, 0]), .code (cd44 [1, 0, 1]), .code (cd44 [1, 1])]) (us := [(2, .string (⟨#[]⟩ : ByteArray))]) (by kernel_rfl) ?_
  refine r_quiet hS0 (c := (cd44 [1, 0, 0])) (id := 1) (by kernel_rfl) (by kernel_rfl) (by kernel_rfl) (is := [0, 1, 2, 3, 4, 5, 6, 7, 8, 9, 10, 11, 12, 13, 14, 15, 16, 17, 18, 19, 20, 21, 22, 23, 24, 25, 26, 27, 28, 29, 30, 31, 32, 33, 34, 35, 36, 37, 38, 39, 40, 41, 42]) (by kernel_rfl) ?_
  refine q_run 1 (is' := [1, 2, 3, 4, 5, 6, 7, 8, 9, 10, 11, 12, 13, 14, 15, 16, 17, 18, 19, 20, 21, 22, 23, 24, 25, 26, 27, 28, 29, 30, 31, 32, 33, 34, 35, 36, 37, 38, 39, 40, 41, 42]) (us := [(3, .pointer (some ⟨ba0, 0, none⟩))]) (by kernel_rfl) ?_
  obtain ⟨t1, hr2, hp3⟩ := bind_some' hp0
  refine q_call1 (c := (cd44 [1, 0, 0])) (i := 1) (d := (some 4)) (v := .bool t1) (g := 12) (args := #[.pointer (some ⟨ba0, 0, none⟩)]) (by kernel_rfl) (by kernel_rfl) (by kernel_rfl) (by kernel_rfl) (fun w hC => by
   refine (weirref06_reader__bad.ok (⟨a0v.L, a0v.At, a0v.Last, a0v.Deep, a0v.C, a0v.F⟩ : weirref06_reader) ba0 Aa0v_0 ca0v_0 Aa0v_4 ca0v_4 hC ha0v_0 ha0v_4 hr2).mono ?_
   rintro e w2 ⟨rfl, h2⟩
   exact ⟨rfl, h2⟩) ?_
  refine q_run 1 (is' := [3, 4, 5, 6, 7, 8, 9, 10, 11, 12, 13, 14, 15, 16, 17, 18, 19, 20, 21, 22, 23, 24, 25, 26, 27, 28, 29, 30, 31, 32, 33, 34, 35, 36, 37, 38, 39, 40, 41, 42]) (us := [(5, .bool t1)]) (by kernel_rfl) ?_
  cases t1
  ·skip
   have hp6 := ite_f hp3 rfl
   refine q_run 3 (is' := [6, 7, 8, 9, 10, 11, 12, 13, 14, 15, 16, 17, 18, 19, 20, 21, 22, 23, 24, 25, 26, 27, 28, 29, 30, 31, 32, 33, 34, 35, 36, 37, 38, 39, 40, 41, 42]) (us := [(6, .pointer (some ⟨ba0, 0, none⟩)), (7, .pointer (some ⟨ba0, 0, none⟩)), (8, .pointer (some ⟨ba0, 1, none⟩))]) (by kernel_rfl) ?_
   refine q_load (c := (cd44 [1, 0, 0])) (i := 6) (d := (some 9)) (ty := 3) (t := 3) (x := (.tmp 8)) (p := ⟨ba0, 1, none⟩) (v := .int .i64 a0v.At) (by kernel_rfl) (by kernel_rfl) (by kernel_rfl) (fun w hC => (loads_at 1 (hC.blk 0 rfl) (by kernel_rfl) (by kernel_rfl))) ?_
   refine q_run 3 (is' := [10, 11, 12, 13, 14, 15, 16, 17, 18, 19, 20, 21, 22, 23, 24, 25, 26, 27, 28, 29, 30, 31, 32, 33, 34, 35, 36, 37, 38, 39, 40, 41, 42]) (us := [(10, .pointer (some ⟨ba0, 0, none⟩)), (11, .pointer (some ⟨ba0, 0, none⟩)), (12, .pointer (some ⟨ba0, 0, none⟩))]) (by kernel_rfl) ?_
   refine q_load (c := (cd44 [1, 0, 0])) (i := 10) (d := (some 13)) (ty := 22) (t := 22) (x := (.tmp 12)) (p := ⟨ba0, 0, none⟩) (v := .slice Aa0v_0 a0v.L.length ca0v_0) (by kernel_rfl) (by kernel_rfl) (by kernel_rfl) (fun w hC => (loads_at 0 (hC.blk 0 rfl) (by kernel_rfl) (by kernel_rfl))) ?_
   refine q_splitr 2 (is' := [13, 14, 15, 16, 17, 18, 19, 20, 21, 22, 23, 24, 25, 26, 27, 28, 29, 30, 31, 32, 33, 34, 35, 36, 37, 38, 39, 40, 41, 42]) (us := [(14, .int .i64 (a0v.L.length : Int))]) (d := 15) (t := (decide (a0v.At ≥ (a0v.L.length : Int)))) (by kernel_rfl) (fun h7 => ?_) (fun h8 => ?_)
   ·skip
    have hp9 := ite_t hp6 h7
    refine q_run 30 (is' := []) (us := [(16, .bool true), (17, .bool true), (18, undef), (19, undef), (20, undef), (21, undef), (22, undef), (23, undef), (24, undef), (25, undef), (26, undef), (27, undef), (28, undef), (29, undef), (30, .bool true), (31, .bool true), (32, undef), (33, undef), (34, undef), (35, undef), (36, undef), (37, undef), (38, undef), (39, undef), (40, undef), (41, undef), (42, undef), (43, undef), (44, undef), (45, .bool true)]) (by kernel_rfl) ?_
    refine Qs.nil ?_
    intro w10 hS11
    refine sx_run 4 (todo' := [.inRegion (opsOf (cd44 [1, 0, 1, 0, 0])) [1], .code (cd44 [1, 0, 1, 0, 1]), .code (cd44 [1, 1])]) (us := [(46, .pointer (some ⟨ba0, 0, none⟩))]) (by kernel_rfl) ?_
    obtain ⟨t12, hr13, hp14⟩ := bind_some' hp9
    refine r_call1 (c := (cd44 [1, 0, 1, 0, 0])) (i := 1) (d := (some 47)) (g := 43) (args := #[.pointer (some ⟨ba0, 0, none⟩)]) (by kernel_rfl) (by kernel_rfl) (by kernel_rfl) (by kernel_rfl) (weirref06_reader__syntax.ok (⟨a0v.L, a0v.At, a0v.Last, a0v.Deep, a0v.C, a0v.F⟩ : weirref06_reader) ba0 Aa0v_0 ca0v_0 Aa0v_4 ca0v_4 hS11 ha0v_0 ha0v_4 hr13) ?_
    rintro _ w15 ⟨rfl, hS16⟩
    refine ⟨.tuple #[], rfl, ?_⟩
    refine sx_run 5 (todo' := [.code (cd44 [1, 0, 1, 0, 1, 1]), .code (cd44 [1, 1])]) (us := [(2, .string (⟨#[]⟩ : ByteArray))]) (by kernel_rfl) ?_
    refine runs_ret (fn := Tryz.f44) (v := .string (⟨#[]⟩ : ByteArray)) Tryz.func44 (by kernel_rfl) ?_
    have hr17 := (Option.some.inj hp14)
    cases hr17
    exact hR _ _ ⟨rfl, hS16⟩
   ·skip
    have hp18 := ite_f hp6 h8
    refine q_run 5 (is' := [18, 19, 20, 21, 22, 23, 24, 25, 26, 27, 28, 29, 30, 31, 32, 33, 34, 35, 36, 37, 38, 39, 40, 41, 42]) (us := [(16, .bool false), (17, .bool false), (18, .pointer (some ⟨ba0, 0, none⟩)), (19, .pointer (some ⟨ba0, 0, none⟩)), (20, .pointer (some ⟨ba0, 0, none⟩))]) (by kernel_rfl) ?_
    refine q_load (c := (cd44 [1, 0, 0])) (i := 18) (d := (some 21)) (ty := 22) (t := 22) (x := (.tmp 20)) (p := ⟨ba0, 0, none⟩) (v := .slice Aa0v_0 a0v.L.length ca0v_0) (by kernel_rfl) (by kernel_rfl) (by kernel_rfl) (fun w hC => (loads_at 0 (hC.blk 0 rfl) (by kernel_rfl) (by kernel_rfl))) ?_
    refine q_run 3 (is' := [22, 23, 24, 25, 26, 27, 28, 29, 30, 31, 32, 33, 34, 35, 36, 37, 38, 39, 40, 41, 42]) (us := [(22, .pointer (some ⟨ba0, 0, none⟩)), (23, .pointer (some ⟨ba0, 0, none⟩)), (24, .pointer (some ⟨ba0, 1, none⟩))]) (by kernel_rfl) ?_
    refine q_load (c := (cd44 [1, 0, 0])) (i := 22) (d := (some 25)) (ty := 3) (t := 3) (x := (.tmp 24)) (p := ⟨ba0, 1, none⟩) (v := .int .i64 a0v.At) (by kernel_rfl) (by kernel_rfl) (by kernel_rfl) (fun w hC => (loads_at 1 (hC.blk 0 rfl) (by kernel_rfl) (by kernel_rfl))) ?_
    obtain ⟨g19, hp20⟩ := ite_some hp18
    obtain ⟨b21, p22, hA23, hc24⟩ := ha0v_0.atF g19.1 g19.2
    refine q_indexAddr (c := (cd44 [1, 0, 0])) (i := 23) (d := (some 26)) (ty := 0) (t := 22) (e := 24) (n := a0v.L.length) (cp := ca0v_0) (sz := 7) (kk := .i64) (x := (.tmp 21)) (y := (.tmp 25)) (b := b21) (o' := p22) (j := a0v.At) (by kernel_rfl) (by kernel_rfl) (slv (by kernel_rfl) hA23) (by kernel_rfl) (by kernel_rfl) (by kernel_rfl) g19.1 g19.2 ?_
    refine q_run 1 (is' := [25, 26, 27, 28, 29, 30, 31, 32, 33, 34, 35, 36, 37, 38, 39, 40, 41, 42]) (us := [(27, .pointer (some ⟨b21, p22 + a0v.At.toNat * 7, none⟩))]) (by kernel_rfl) ?_
    refine q_load (c := (cd44 [1, 0, 0])) (i := 25) (d := (some 28)) (ty := 3) (t := 3) (x := (.tmp 27)) (p := ⟨b21, p22 + a0v.At.toNat * 7, none⟩) (v := .int .i64 ((gt a0v.L a0v.At).Kind)) (by kernel_rfl) (by kernel_rfl) (by kernel_rfl) (fun w hC => (loads_at 0 (hc24.cells hC) (by kernel_rfl) (by kernel_rfl))) ?_
    refine q_splitr 1 (is' := [27, 28, 29, 30, 31, 32, 33, 34, 35, 36, 37, 38, 39, 40, 41, 42]) (us := []) (d := 29) (t := (((gt a0v.L a0v.At).Kind) != 1)) (by kernel_rfl) (fun h25 => ?_) (fun h26 => ?_)
    ·skip
     have hp27 := ite_t hp20 h25
     refine q_run 16 (is' := []) (us := [(30, .bool true), (31, .bool true), (32, undef), (33, undef), (34, undef), (35, undef), (36, undef), (37, undef), (38, undef), (39, undef), (40, undef), (41, undef), (42, undef), (43, undef), (44, undef), (45, .bool true)]) (by kernel_rfl) ?_
     refine Qs.nil ?_
     intro w28 hS29
     refine sx_run 4 (todo' := [.inRegion (opsOf (cd44 [1, 0, 1, 0, 0])) [1], .code (cd44 [1, 0, 1, 0, 1]), .code (cd44 [1, 1])]) (us := [(46, .pointer (some ⟨ba0, 0, none⟩))]) (by kernel_rfl) ?_
     obtain ⟨t30, hr31, hp32⟩ := bind_some' hp27
     refine r_call1 (c := (cd44 [1, 0, 1, 0, 0])) (i := 1) (d := (some 47)) (g := 43) (args := #[.pointer (some ⟨ba0, 0, none⟩)]) (by kernel_rfl) (by kernel_rfl) (by kernel_rfl) (by kernel_rfl) (weirref06_reader__syntax.ok (⟨a0v.L, a0v.At, a0v.Last, a0v.Deep, a0v.C, a0v.F⟩ : weirref06_reader) ba0 Aa0v_0 ca0v_0 Aa0v_4 ca0v_4 hS29 ha0v_0 ha0v_4 hr31) ?_
     rintro _ w33 ⟨rfl, hS34⟩
     refine ⟨.tuple #[], rfl, ?_⟩
     refine sx_run 5 (todo' := [.code (cd44 [1, 0, 1, 0, 1, 1]), .code (cd44 [1, 1])]) (us := [(2, .string (⟨#[]⟩ : ByteArray))]) (by kernel_rfl) ?_
     refine runs_ret (fn := Tryz.f44) (v := .string (⟨#[]⟩ : ByteArray)) Tryz.func44 (by kernel_rfl) ?_
     have hr35 := (Option.some.inj hp32)
     cases hr35
     exact hR _ _ ⟨rfl, hS34⟩
    ·skip
     have hp36 := ite_f hp20 h26
     refine q_run 5 (is' := [32, 33, 34, 35, 36, 37, 38, 39, 40, 41, 42]) (us := [(30, .bool false), (31, .bool false), (32, .pointer (some ⟨ba0, 0, none⟩)), (33, .pointer (some ⟨ba0, 0, none⟩)), (34, .pointer (some ⟨ba0, 0, none⟩))]) (by kernel_rfl) ?_
     refine q_load (c := (cd44 [1, 0, 0])) (i := 32) (d := (some 35)) (ty := 22) (t := 22) (x := (.tmp 34)) (p := ⟨ba0, 0, none⟩) (v := .slice Aa0v_0 a0v.L.length ca0v_0) (by kernel_rfl) (by kernel_rfl) (by kernel_rfl) (fun w hC => (loads_at 0 (hC.blk 0 rfl) (by kernel_rfl) (by kernel_rfl))) ?_
     refine q_run 3 (is' := [36, 37, 38, 39, 40, 41, 42]) (us := [(36, .pointer (some ⟨ba0, 0, none⟩)), (37, .pointer (some ⟨ba0, 0, none⟩)), (38, .pointer (some ⟨ba0, 1, none⟩))]) (by kernel_rfl) ?_
     refine q_load (c := (cd44 [1, 0, 0])) (i := 36) (d := (some 39)) (ty := 3) (t := 3) (x := (.tmp 38)) (p := ⟨ba0, 1, none⟩) (v := .int .i64 a0v.At) (by kernel_rfl) (by kernel_rfl) (by kernel_rfl) (fun w hC => (loads_at 1 (hC.blk 0 rfl) (by kernel_rfl) (by kernel_rfl))) ?_
     obtain ⟨g37, hp38⟩ := ite_some hp36
     obtain ⟨b39, p40, hA41, hc42⟩ := ha0v_0.atF g37.1 g37.2
     refine q_indexAddr (c := (cd44 [1, 0, 0])) (i := 37) (d := (some 40)) (ty := 0) (t := 22) (e := 24) (n := a0v.L.length) (cp := ca0v_0) (sz := 7) (kk := .i64) (x := (.tmp 35)) (y := (.tmp 39)) (b := b39) (o' := p40) (j := a0v.At) (by kernel_rfl) (by kernel_rfl) (slv (by kernel_rfl) hA41) (by kernel_rfl) (by kernel_rfl) (by kernel_rfl) g37.1 g37.2 ?_
     refine q_run 1 (is' := [39, 40, 41, 42]) (us := [(41, .pointer (some ⟨b39, p40 + a0v.At.toNat * 7 + 1, none⟩))]) (by kernel_rfl) ?_
     refine q_load (c := (cd44 [1, 0, 0])) (i := 39) (d := (some 42)) (ty := 9) (t := 9) (x := (.tmp 41)) (p := ⟨b39, p40 + a0v.At.toNat * 7 + 1, none⟩) (v := .string ((gt a0v.L a0v.At).Text)) (by kernel_rfl) (by kernel_rfl) (by kernel_rfl) (fun w hC => (loads_at 1 (hc42.cells hC) (by kernel_rfl) (by kernel_rfl))) ?_
     obtain ⟨t43, hr44, hp45⟩ := bind_some' hp38
     refine q_call1 (c := (cd44 [1, 0, 0])) (i := 40) (d := (some 43)) (v := .bool t43) (g := 49) (args := #[.string ((gt a0v.L a0v.At).Text)]) (by kernel_rfl) (by kernel_rfl) (by kernel_rfl) (by kernel_rfl) (fun w hC => by
      refine (weirref05_Name.ok ((gt a0v.L a0v.At).Text) hC hr44).mono ?_
      rintro e w2 ⟨rfl, h2⟩
      exact ⟨rfl, h2⟩) ?_
     refine q_splitr 1 (is' := [42]) (us := []) (d := 44) (t := (!t43)) (by kernel_rfl) (fun h46 => ?_) (fun h47 => ?_)
     ·skip
      have hp48 := ite_t hp45 h46
      refine q_run 1 (is' := []) (us := [(45, .bool true)]) (by kernel_rfl) ?_
      refine Qs.nil ?_
      intro w49 hS50
      refine sx_run 4 (todo' := [.inRegion (opsOf (cd44 [1, 0, 1, 0, 0])) [1], .code (cd44 [1, 0, 1, 0, 1]), .code (cd44 [1, 1])]) (us := [(46, .pointer (some ⟨ba0, 0, none⟩))]) (by kernel_rfl) ?_
      obtain ⟨t51, hr52, hp53⟩ := bind_some' hp48
      refine r_call1 (c := (cd44 [1, 0, 1, 0, 0])) (i := 1) (d := (some 47)) (g := 43) (args := #[.pointer (some ⟨ba0, 0, none⟩)]) (by kernel_rfl) (by kernel_rfl) (by kernel_rfl) (by kernel_rfl) (weirref06_reader__syntax.ok (⟨a0v.L, a0v.At, a0v.Last, a0v.Deep, a0v.C, a0v.F⟩ : weirref06_reader) ba0 Aa0v_0 ca0v_0 Aa0v_4 ca0v_4 hS50 ha0v_0 ha0v_4 hr52) ?_
      rintro _ w54 ⟨rfl, hS55⟩
      refine ⟨.tuple #[], rfl, ?_⟩
      refine sx_run 5 (todo' := [.code (cd44 [1, 0, 1, 0, 1, 1]), .code (cd44 [1, 1])]) (us := [(2, .string (⟨#[]⟩ : ByteArray))]) (by kernel_rfl) ?_
      refine runs_ret (fn := Tryz.f44) (v := .string (⟨#[]⟩ : ByteArray)) Tryz.func44 (by kernel_rfl) ?_
      have hr56 := (Option.some.inj hp53)
      cases hr56
      exact hR _ _ ⟨rfl, hS55⟩
     ·skip
      have hp57 := ite_f hp45 h47
      refine q_run 1 (is' := []) (us := [(45, .bool false)]) (by kernel_rfl) ?_
      refine Qs.nil ?_
      intro w58 hS59
      refine sx_run 5 (todo' := [.inRegion (opsOf (cd44 [1, 1, 0])) [1, 2, 3], .code (cd44 [1, 1, 1])]) (us := [(48, .pointer (some ⟨ba0, 0, none⟩))]) (by kernel_rfl) ?_
      obtain ⟨⟨t60, t61, t62⟩, hr63, hp64⟩ := bind_some' hp57
      try dsimp only at hp64
      refine r_call1 (c := (cd44 [1, 1, 0])) (i := 1) (d := (some 49)) (g := 18) (args := #[.pointer (some ⟨ba0, 0, none⟩)]) (by kernel_rfl) (by kernel_rfl) (by kernel_rfl) (by kernel_rfl) (weirref06_reader__take.ok (⟨a0v.L, a0v.At, a0v.Last, a0v.Deep, a0v.C, a0v.F⟩ : weirref06_reader) ba0 Aa0v_0 ca0v_0 Aa0v_4 ca0v_4 hS59 ha0v_0 ha0v_4 hr63) ?_
      rintro _ w65 ⟨rfl, hS66⟩
      refine ⟨.agg (enc_api_Token t60).toArray, rfl, ?_⟩
      refine sx_run 3 (todo' := [.code (cd44 [1, 1, 1])]) (us := [(50, .string t60.Text), (2, .string t60.Text)]) (by kernel_rfl) ?_
      refine runs_ret (fn := Tryz.f44) (v := .string t60.Text) Tryz.func44 (by kernel_rfl) ?_
      have hr67 := (Option.some.inj hp64)
      cases hr67
      exact hR _ _ ⟨rfl, hS66⟩
  ·skip
   have hp68 := ite_t hp3 rfl
   refine q_run 40 (is' := []) (us := [(6, undef), (7, undef), (8, undef), (9, undef), (10, undef), (11, undef), (12, undef), (13, undef), (14, undef), (15, undef), (16, .bool true), (17, .bool true), (18, undef), (19, undef), (20, undef), (21, undef), (22, undef), (23, undef), (24, undef), (25, undef), (26, undef), (27, undef), (28, undef), (29, undef), (30, .bool true), (31, .bool true), (32, undef), (33, undef), (34, undef), (35, undef), (36, undef), (37, undef), (38, undef), (39, undef), (40, undef), (41, undef), (42, undef), (43, undef), (44, undef), (45, .bool true)]) (by kernel_rfl) ?_
   refine Qs.nil ?_
   intro w69 hS70
   refine sx_run 4 (todo' := [.inRegion (opsOf (cd44 [1, 0, 1, 0, 0])) [1], .code (cd44 [1, 0, 1, 0, 1]), .code (cd44 [1, 1])]) (us := [(46, .pointer (some ⟨ba0, 0, none⟩))]) (by kernel_rfl) ?_
   obtain ⟨t71, hr72, hp73⟩ := bind_some' hp68
   refine r_call1 (c := (cd44 [1, 0, 1, 0, 0])) (i := 1) (d := (some 47)) (g := 43) (args := #[.pointer (some ⟨ba0, 0, none⟩)]) (by kernel_rfl) (by kernel_rfl) (by kernel_rfl) (by kernel_rfl) (weirref06_reader__syntax.ok (⟨a0v.L, a0v.At, a0v.Last, a0v.Deep, a0v.C, a0v.F⟩ : weirref06_reader) ba0 Aa0v_0 ca0v_0 Aa0v_4 ca0v_4 hS70 ha0v_0 ha0v_4 hr72) ?_
   rintro _ w74 ⟨rfl, hS75⟩
   refine ⟨.tuple #[], rfl, ?_⟩
   refine sx_run 5 (todo' := [.code (cd44 [1, 0, 1, 0, 1, 1]), .code (cd44 [1, 1])]) (us := [(2, .string (⟨#[]⟩ : ByteArray))]) (by kernel_rfl) ?_
   refine runs_ret (fn := Tryz.f44) (v := .string (⟨#[]⟩ : ByteArray)) Tryz.func44 (by kernel_rfl) ?_
   have hr76 := (Option.some.inj hp73)
   cases hr76
   exact hR _ _ ⟨rfl, hS75⟩

noncomputable def cd46 (p : List Nat) : Code := sub (bodyOf Tryz.f46) p
def weirref06_reader__number.f (a0v : weirref06_reader) : Option (Int × Int × api_Token × weirref05_Fault) :=
  (weirref06_reader__bad.f (⟨a0v.L, a0v.At, a0v.Last, a0v.Deep, a0v.C, a0v.F⟩ : weirref06_reader) >>= (fun t1 => (if t1 = true then (weirref06_reader__syntax.f (⟨a0v.L, a0v.At, a0v.Last, a0v.Deep, a0v.C, a0v.F⟩ : weirref06_reader) >>= (fun t50 => some ((0, a0v.At, a0v.Last, t50)))) else (if (decide (a0v.At ≥ (a0v.L.length : Int))) = true then (weirref06_reader__syntax.f (⟨a0v.L, a0v.At, a0v.Last, a0v.Deep, a0v.C, a0v.F⟩ : weirref06_reader) >>= (fun t12 => some ((0, a0v.At, a0v.Last, t12)))) else (if 0 ≤ a0v.At ∧ a0v.At < (a0v.L.length : Int) then (if (((gt a0v.L a0v.At).Kind) != 2) = true then (weirref06_reader__syntax.f (⟨a0v.L, a0v.At, a0v.Last, a0v.Deep, a0v.C, a0v.F⟩ : weirref06_reader) >>= (fun t30 => some ((0, a0v.At, a0v.Last, t30)))) else (weirref06_reader__take.f (⟨a0v.L, a0v.At, a0v.Last, a0v.Deep, a0v.C, a0v.F⟩ : weirref06_reader) >>= (fun (t39, t40, t41) => some ((t39.Value, t40, t41, a0v.F))))) else none)))))
set_option maxHeartbeats 16000000 in
theorem weirref06_reader__number.ok (a0v : weirref06_reader) (ba0 : Nat) (Aa0v_0 : Option Addr) (ca0v_0 : Nat) (Aa0v_4 : Option Addr) (ca0v_4 : Nat) {w0 : World} {Z : Zm} {fs : List XObj} {w : World} (hS0 : St w0 Z (xblk ba0 48 ([.slice Aa0v_0 a0v.L.length ca0v_0] ++ [.int .i64 a0v.At] ++ (enc_api_Token a0v.Last) ++ [.int .i64 a0v.Deep] ++ [.slice Aa0v_4 a0v.C.length ca0v_4] ++ (enc_weirref05_Fault a0v.F)) :: fs) w) (ha0v_0 : SlZ (flat enc_api_Token) 7 Z Aa0v_0 ca0v_0 a0v.L) (ha0v_4 : SlZ (flat enc_api_Node) 6 Z Aa0v_4 ca0v_4 a0v.C) {q0 : Int} {q1 : Int} {q2 : api_Token} {q3 : weirref05_Fault} (hp0 : weirref06_reader__number.f a0v = some (q0, q1, q2, q3)) :
    Calls Tryz.prog 46 #[.pointer (some ⟨ba0, 0, none⟩)] w (fun e w' => e = .returned (.int .i64 q0) ∧ St w0 Z (xblk ba0 48 ([.slice Aa0v_0 a0v.L.length ca0v_0] ++ [.int .i64 q1] ++ (enc_api_Token q2) ++ [.int .i64 a0v.Deep] ++ [.slice Aa0v_4 a0v.C.length ca0v_4] ++ (enc_weirref05_Fault q3)) :: fs) w') := by
  refine calls_abs ?_; intro R hR
  unfold weirref06_reader__number.f at hp0
  refine calls_of_runs (fn := Tryz.f46) (c := cd46 []) Tryz.func46 (by kernel_rfl) (al := [.pointer (some ⟨ba0, 0, none⟩)]) rfl (n := 35) rfl ?_
  refine sx_run 6 (todo' := [.code (cd46 [1, 0, 0]), .code (cd46 [1, 0, 1]), .code (cd46 [1, 1])]) (us := [(2, .int .i64 0)]) (by kernel_rfl) ?_
  refine r_quiet hS0 (c := (cd46 [1, 0, 0])) (id := 1) (by kernel_rfl) (by kernel_rfl) (by kernel_rfl) (is := [0, 1, 2, 3, 4, 5, 6, 7, 8, 9, 10, 11, 12, 13, 14, 15, 16, 17, 18, 19, 20, 21, 22, 23, 24, 25, 26, 27]) (by kernel_rfl) ?_
  refine q_run 1 (is' := [1, 2, 3, 4, 5, 6, 7, 8, 9, 10, 11, 12, 13, 14, 15, 16, 17, 18, 19, 20, 21, 22, 23, 24, 25, 26, 27]) (us := [(3, .pointer (some ⟨ba0, 0, none⟩))]) (by kernel_rfl) ?_
  obtain ⟨t1, hr2, hp3⟩ := bind_some' hp0
  refine q_call1 (c := (cd46 [1, 0, 0])) (i := 1) (d := (some 4)) (v := .bool t1) (g := 12) (args := #[.pointer (some ⟨ba0, 0, none⟩)]) (by kernel_rfl) (by kernel_rfl) (by kernel_rfl) (by kernel_rfl) (fun w hC => by
   refine (weirref06_reader__bad.ok (⟨a0v.L, a0v.At, a0v.Last, a0v.Deep, a0v.C, a0v.F⟩ : weirref06_reader) ba0 Aa0v_0 ca0v_0 Aa0v_4 ca0v_4 hC ha0v_0 ha0v_4 hr2).mono ?_
   rintro e w2 ⟨rfl, h2⟩
   exact ⟨rfl, h2⟩) ?_
  refine q_run 1 (is' := [3, 4, 5, 6, 7, 8, 9, 10, 11, 12, 13, 14, 15, 16, 17, 18, 19, 20, 21, 22, 23, 24, 25, 26, 27]) (us := [(5, .bool t1)]) (by kernel_rfl) ?_
  cases t1
  ·skip
   have hp6 := ite_f hp3 rfl
   refine q_run 3 (is' := [6, 7, 8, 9, 10, 11, 12, 13, 14, 15, 16, 17, 18, 19, 20, 21, 22, 23, 24, 25, 26, 27]) (us := [(6, .pointer (some ⟨ba0, 0, none⟩)), (7, .pointer (some ⟨ba0, 0, none⟩)), (8, .pointer (some ⟨ba0, 1, none⟩))]) (by kernel_rfl) ?_
   refine q_load (c := (cd46 [1, 0, 0])) (i := 6) (d := (some 9)) (ty := 3) (t := 3) (x := (.tmp 8)) (p := ⟨ba0, 1, none⟩) (v := .int .i64 a0v.At) (by kernel_rfl) (by kernel_rfl) (by kernel_rfl) (fun w hC => (loads_at 1 (hC.blk 0 rfl) (by kernel_rfl) (by kernel_rfl))) ?_
   refine q_run 3 (is' := [10, 11, 12, 13, 14, 15, 16, 17, 18, 19, 20, 21, 22, 23, 24, 25, 26, 27]) (us := [(10, .pointer (some ⟨ba0, 0, none⟩)), (11, .pointer (some ⟨ba0, 0, none⟩)), (12, .pointer (some ⟨ba0, 0, none⟩))]) (by kernel_rfl) ?_
   refine q_load (c := (cd46 [1, 0, 0])) (i := 10) (d := (some 13)) (ty := 22) (t := 22) (x := (.tmp 12)) (p := ⟨ba0, 0, none⟩) (v := .slice Aa0v_0 a0v.L.length ca0v_0) (by kernel_rfl) (by kernel_rfl) (by kernel_rfl) (fun w hC => (loads_at 0 (hC.blk 0 rfl) (by kernel_rfl) (by kernel_rfl))) ?_
   refine q_splitr 2 (is' := [13, 14, 15, 16, 17, 18, 19, 20, 21, 22, 23, 24, 25, 26, 27]) (us := [(14, .int .i64 (a0v.L.length : Int))]) (d := 15) (t := (decide (a0v.At ≥ (a0v.L.length : Int)))) (by kernel_rfl) (fun h7 => ?_) (fun h8 => ?_)
   ·skip
    have hp9 := ite_t hp6 h7
    refine q_run 15 (is' := []) (us := [(16, .bool true), (17, .bool true), (18, undef), (19, undef), (20, undef), (21, undef), (22, undef), (23, undef), (24, undef), (25, undef), (26, undef), (27, undef), (28, undef), (29, undef), (30, .bool true)]) (by kernel_rfl) ?_
    refine Qs.nil ?_
    intro w10 hS11
    refine sx_run 4 (todo' := [.inRegion (opsOf (cd46 [1, 0, 1, 0, 0])) [1], .code (cd46 [1, 0, 1, 0, 1]), .code (cd46 [1, 1])]) (us := [(31, .pointer (some ⟨ba0, 0, none⟩))]) (by kernel_rfl) ?_
    obtain ⟨t12, hr13, hp14⟩ := bind_some' hp9
    refine r_call1 (c := (cd46 [1, 0, 1, 0, 0])) (i := 1) (d := (some 32)) (g := 43) (args := #[.pointer (some ⟨ba0, 0, none⟩)]) (by kernel_rfl) (by kernel_rfl) (by kernel_rfl) (by kernel_rfl) (weirref06_reader__syntax.ok (⟨a0v.L, a0v.At, a0v.Last, a0v.Deep, a0v.C, a0v.F⟩ : weirref06_reader) ba0 Aa0v_0 ca0v_0 Aa0v_4 ca0v_4 hS11 ha0v_0 ha0v_4 hr13) ?_
    rintro _ w15 ⟨rfl, hS16⟩
    refine ⟨.tuple #[], rfl, ?_⟩
    refine sx_run 5 (todo' := [.code (cd46 [1, 0, 1, 0, 1, 1]), .code (cd46 [1, 1])]) (us := [(2, .int .i64 0)]) (by kernel_rfl) ?_
    refine runs_ret (fn := Tryz.f46) (v := .int .i64 0) Tryz.func46 (by kernel_rfl) ?_
    have hr17 := (Option.some.inj hp14)
    cases hr17
    exact hR _ _ ⟨rfl, hS16⟩
   ·skip
    have hp18 := ite_f hp6 h8
    refine q_run 5 (is' := [18, 19, 20, 21, 22, 23, 24, 25, 26, 27]) (us := [(16, .bool false), (17, .bool false), (18, .pointer (some ⟨ba0, 0, none⟩)), (19, .pointer (some ⟨ba0, 0, none⟩)), (20, .pointer (some ⟨ba0, 0, none⟩))]) (by kernel_rfl) ?_
    refine q_load (c := (cd46 [1, 0, 0])) (i := 18) (d := (some 21)) (ty := 22) (t := 22) (x := (.tmp 20)) (p := ⟨ba0, 0, none⟩) (v := .slice Aa0v_0 a0v.L.length ca0v_0) (by kernel_rfl) (by kernel_rfl) (by kernel_rfl) (fun w hC => (loads_at 0 (hC.blk 0 rfl) (by kernel_rfl) (by kernel_rfl))) ?_
    refine q_run 3 (is' := [22, 23, 24, 25, 26, 27]) (us := [(22, .pointer (some ⟨ba0, 0, none⟩)), (23, .pointer (some ⟨ba0, 0, none⟩)), (24, .pointer (some ⟨ba0, 1, none⟩))]) (by kernel_rfl) ?_
    refine q_load (c := (cd46 [1, 0, 0])) (i := 22) (d := (some 25)) (ty := 3) (t := 3) (x := (.tmp 24)) (p := ⟨ba0, 1, none⟩) (v := .int .i64 a0v.At) (by kernel_rfl) (by kernel_rfl) (by kernel_rfl) (fun w hC => (loads_at 1 (hC.blk 0 rfl) (by kernel_rfl) (by kernel_rfl))) ?_
    obtain ⟨g19, hp20⟩ := ite_some hp18
    obtain ⟨b21, p22, hA23, hc24⟩ := ha0v_0.atF g19.1 g19.2
    refine q_indexAddr (c := (cd46 [1, 0, 0])) (i := 23) (d := (some 26)) (ty := 0) (t := 22) (e := 24) (n := a0v.L.length) (cp := ca0v_0) (sz := 7) (kk := .i64) (x := (.tmp 21)) (y := (.tmp 25)) (b := b21) (o' := p22) (j := a0v.At) (by kernel_rfl) (by kernel_rfl) (slv (by kernel_rfl) hA23) (by kernel_rfl) (by kernel_rfl) (by kernel_rfl) g19.1 g19.2 ?_
    refine q_run 1 (is' := [25, 26, 27]) (us := [(27, .pointer (some ⟨b21, p22 + a0v.At.toNat * 7, none⟩))]) (by kernel_rfl) ?_
    refine q_load (c := (cd46 [1, 0, 0])) (i := 25) (d := (some 28)) (ty := 3) (t := 3) (x := (.tmp 27)) (p := ⟨b21, p22 + a0v.At.toNat * 7, none⟩) (v := .int .i64 ((gt a0v.L a0v.At).Kind)) (by kernel_rfl) (by kernel_rfl) (by kernel_rfl) (fun w hC => (loads_at 0 (hc24.cells hC) (by kernel_rfl) (by kernel_rfl))) ?_
    refine q_splitr 1 (is' := [27]) (us := []) (d := 29) (t := (((gt a0v.L a0v.At).Kind) != 2)) (by kernel_rfl) (fun h25 => ?_) (fun h26 => ?_)
    ·skip
     have hp27 := ite_t hp20 h25
     refine q_run 1 (is' := []) (us := [(30, .bool true)]) (by kernel_rfl) ?_
     refine Qs.nil ?_
     intro w28 hS29
     refine sx_run 4 (todo' := [.inRegion (opsOf (cd46 [1, 0, 1, 0, 0])) [1], .code (cd46 [1, 0, 1, 0, 1]), .code (cd46 [1, 1])]) (us := [(31, .pointer (some ⟨ba0, 0, none⟩))]) (by kernel_rfl) ?_
     obtain ⟨t30, hr31, hp32⟩ := bind_some' hp27
     refine r_call1 (c := (cd46 [1, 0, 1, 0, 0])) (i := 1) (d := (some 32)) (g := 43) (args := #[.pointer (some ⟨ba0, 0, none⟩)]) (by kernel_rfl) (by kernel_rfl) (by kernel_rfl) (by kernel_rfl) (weirref06_reader__syntax.ok (⟨a0v.L, a0v.At, a0v.Last, a0v.Deep, a0v.C, a0v.F⟩ : weirref06_reader) ba0 Aa0v_0 ca0v_0 Aa0v_4 ca0v_4 hS29 ha0v_0 ha0v_4 hr31) ?_
     rintro _ w33 ⟨rfl, hS34⟩
     refine ⟨.tuple #[], rfl, ?_⟩
     refine sx_run 5 (todo' := [.code (cd46 [1, 0, 1, 0, 1, 1]), .code (cd46 [1, 1])]) (us := [(2, .int .i64 0)]) (by kernel_rfl) ?_
     refine runs_ret (fn := Tryz.f46) (v := .int .i64 0) Tryz.func46 (by kernel_rfl) ?_
     have hr35 := (Option.some.inj hp32)
     cases hr35
     exact hR _ _ ⟨rfl, hS34⟩
    ·skip
     have hp36 := ite_f hp20 h26
     refine q_run 1 (is' := []) (us := [(30, .bool false)]) (by kernel_rfl) ?_
     refine Qs.nil ?_
     intro w37 hS38
     refine sx_run 5 (todo' := [.inRegion (opsOf (cd46 [1, 1, 0])) [1, 2, 3], .code (cd46 [1, 1, 1])]) (us := [(33, .pointer (some ⟨ba0, 0, none⟩))]) (by kernel_rfl) ?_
     obtain ⟨⟨t39, t40, t41⟩, hr42, hp43⟩ := bind_some' hp36
     try dsimp only at hp43
     refine r_call1 (c := (cd46 [1, 1, 0])) (i := 1) (d := (some 34)) (g := 18) (args := #[.pointer (some ⟨ba0, 0, none⟩)]) (by kernel_rfl) (by kernel_rfl) (by kernel_rfl) (by kernel_rfl) (weirref06_reader__take.ok (⟨a0v.L, a0v.At, a0v.Last, a0v.Deep, a0v.C, a0v.F⟩ : weirref06_reader) ba0 Aa0v_0 ca0v_0 Aa0v_4 ca0v_4 hS38 ha0v_0 ha0v_4 hr42) ?_
     rintro _ w44 ⟨rfl, hS45⟩
     refine ⟨.agg (enc_api_Token t39).toArray, rfl, ?_⟩
     refine sx_run 3 (todo' := [.code (cd46 [1, 1, 1])]) (us := [(35, .int .i64 t39.Value), (2, .int .i64 t39.Value)]) (by kernel_rfl) ?_
     refine runs_ret (fn := Tryz.f46) (v := .int .i64 t39.Value) Tryz.func46 (by kernel_rfl) ?_
     have hr46 := (Option.some.inj hp43)
     cases hr46
     exact hR _ _ ⟨rfl, hS45⟩
  ·skip
   have hp47 := ite_t hp3 rfl
   refine q_run 25 (is' := []) (us := [(6, undef), (7, undef), (8, undef), (9, undef), (10, undef), (11, undef), (12, undef), (13, undef), (14, undef), (15, undef), (16, .bool true), (17, .bool true), (18, undef), (19, undef), (20, undef), (21, undef), (22, undef), (23, undef), (24, undef), (25, undef), (26, undef), (27, undef), (28, undef), (29, undef), (30, .bool true)]) (by kernel_rfl) ?_
   refine Qs.nil ?_
   intro w48 hS49
   refine sx_run 4 (todo' := [.inRegion (opsOf (cd46 [1, 0, 1, 0, 0])) [1], .code (cd46 [1, 0, 1, 0, 1]), .code (cd46 [1, 1])]) (us := [(31, .pointer (some ⟨ba0, 0, none⟩))]) (by kernel_rfl) ?_
   obtain ⟨t50, hr51, hp52⟩ := bind_some' hp47
   refine r_call1 (c := (cd46 [1, 0, 1, 0, 0])) (i := 1) (d := (some 32)) (g := 43) (args := #[.pointer (some ⟨ba0, 0, none⟩)]) (by kernel_rfl) (by kernel_rfl) (by kernel_rfl) (by kernel_rfl) (weirref06_reader__syntax.ok (⟨a0v.L, a0v.At, a0v.Last, a0v.Deep, a0v.C, a0v.F⟩ : weirref06_reader) ba0 Aa0v_0 ca0v_0 Aa0v_4 ca0v_4 hS49 ha0v_0 ha0v_4 hr51) ?_
   rintro _ w53 ⟨rfl, hS54⟩
   refine ⟨.tuple #[], rfl, ?_⟩
   refine sx_run 5 (todo' := [.code (cd46 [1, 0, 1, 0, 1, 1]), .code (cd46 [1, 1])]) (us := [(2, .int .i64 0)]) (by kernel_rfl) ?_
   refine runs_ret (fn := Tryz.f46) (v := .int .i64 0) Tryz.func46 (by kernel_rfl) ?_
   have hr55 := (Option.some.inj hp52)
   cases hr55
   exact hR _ _ ⟨rfl, hS54⟩

noncomputable def cd39 (p : List Nat) : Code := sub (bodyOf Tryz.f39) p
def weirref06_reader__equation.f (a0v : weirref06_reader) : Option (Int × Int × api_Token × (List api_Node) × weirref05_Fault) :=
  (weirref06_reader__is.f (⟨a0v.L, a0v.At, a0v.Last, a0v.Deep, a0v.C, a0v.F⟩ : weirref06_reader) 0 4 (⟨#[91]⟩ : ByteArray) >>= (fun t7 => (((if t7 = true then (weirref06_reader__take.f (⟨a0v.L, a0v.At, a0v.Last, a0v.Deep, a0v.C, a0v.F⟩ : weirref06_reader) >>= (fun (t228, t229, t230) => (weirref06_reader__name.f (⟨a0v.L, t229, t230, a0v.Deep, a0v.C, a0v.F⟩ : weirref06_reader) >>= (fun (t241, t242, t243, t244) => (weirref06_reader__sign.f (⟨a0v.L, t242, t243, a0v.Deep, a0v.C, t244⟩ : weirref06_reader) (⟨#[93]⟩ : ByteArray) >>= (fun (t258, t259, t260) => some ((t258, t259, t260, (⟨(-1), t241⟩ : api_Ref))))))))) else (if (decide (a0v.At < (a0v.L.length : Int))) = true then (if 0 ≤ a0v.At ∧ a0v.At < (a0v.L.length : Int) then (if (((gt a0v.L a0v.At).Kind) == 2) = true then (if 0 ≤ a0v.At ∧ a0v.At < (a0v.L.length : Int) then (weirref06_thread.f ((gt a0v.L a0v.At).Text) >>= (fun t95 => (if (decide (t95 ≥ 0)) = true then (weirref06_reader__take.f (⟨a0v.L, a0v.At, a0v.Last, a0v.Deep, a0v.C, a0v.F⟩ : weirref06_reader) >>= (fun (t106, t107, t108) => (weirref06_thread.f t106.Text >>= (fun t119 => (weirref06_reader__sign.f (⟨a0v.L, t107, t108, a0v.Deep, a0v.C, a0v.F⟩ : weirref06_reader) (⟨#[58]⟩ : ByteArray) >>= (fun (t127, t128, t129) => (weirref06_reader__name.f (⟨a0v.L, t127, t128, a0v.Deep, a0v.C, t129⟩ : weirref06_reader) >>= (fun (t142, t143, t144, t145) => some ((t143, t144, t145, (⟨t119, t142⟩ : api_Ref))))))))))) else (weirref06_reader__name.f (⟨a0v.L, a0v.At, a0v.Last, a0v.Deep, a0v.C, a0v.F⟩ : weirref06_reader) >>= (fun (t164, t165, t166, t167) => some ((t165, t166, t167, (⟨(-1), t164⟩ : api_Ref)))))))) else none) else (weirref06_reader__name.f (⟨a0v.L, a0v.At, a0v.Last, a0v.Deep, a0v.C, a0v.F⟩ : weirref06_reader) >>= (fun (t186, t187, t188, t189) => some ((t187, t188, t189, (⟨(-1), t186⟩ : api_Ref)))))) else none) else (weirref06_reader__name.f (⟨a0v.L, a0v.At, a0v.Last, a0v.Deep, a0v.C, a0v.F⟩ : weirref06_reader) >>= (fun (t208, t209, t210, t211) => some ((t209, t210, t211, (⟨(-1), t208⟩ : api_Ref))))))) : Option (Int × api_Token × weirref05_Fault × api_Ref)) >>= (fun (t25, t26, t27, t28) => (weirref06_reader__sign.f (⟨a0v.L, t25, t26, a0v.Deep, a0v.C, t27⟩ : weirref06_reader) (⟨#[61]⟩ : ByteArray) >>= (fun (t34, t35, t36) => (weirref06_reader__number.f (⟨a0v.L, t34, t35, a0v.Deep, a0v.C, t36⟩ : weirref06_reader) >>= (fun (t48, t49, t50, t51) => (weirref06_reader__node.f (⟨a0v.L, t49, t50, a0v.Deep, a0v.C, t51⟩ : weirref06_reader) (⟨2, 0, 0, t28, t48⟩ : api_Node) >>= (fun (t62, t63, t64) => some ((t62, t49, t50, t63, t64))))))))))))
set_option maxHeartbeats 16000000 in
theorem weirref06_reader__equation.ok (a0v : weirref06_reader) (ba0 : Nat) (Aa0v_0 : Option Addr) (ca0v_0 : Nat) (Aa0v_4 : Option Addr) (ca0v_4 : Nat) {w0 : World} {Z : Zm} {fs : List XObj} {w : World} (hS0 : St w0 Z (xblk ba0 48 ([.slice Aa0v_0 a0v.L.length ca0v_0] ++ [.int .i64 a0v.At] ++ (enc_api_Token a0v.Last) ++ [.int .i64 a0v.Deep] ++ [.slice Aa0v_4 a0v.C.length ca0v_4] ++ (enc_weirref05_Fault a0v.F)) :: xrow Aa0v_4 ca0v_4 53 6 (a0v.C.flatMap enc_api_Node) :: fs) w) (ha0v_0 : SlZ (flat enc_api_Token) 7 Z Aa0v_0 ca0v_0 a0v.L) {q0 : Int} {q1 : Int} {q2 : api_Token} {q3 : List api_Node} {q4 : weirref05_Fault} (hp0 : weirref06_reader__equation.f a0v = some (q0, q1, q2, q3, q4)) :
    Calls Tryz.prog 39 #[.pointer (some ⟨ba0, 0, none⟩)] w (fun e w' => ∃ (QA0 : Option Addr) (Qc0 : Nat), e = .returned (.int .i64 q0) ∧ St w0 Z (xrow QA0 Qc0 53 6 (q3.flatMap enc_api_Node) :: xblk ba0 48 ([.slice Aa0v_0 a0v.L.length ca0v_0] ++ [.int .i64 q1] ++ (enc_api_Token q2) ++ [.int .i64 a0v.Deep] ++ [.slice QA0 q3.length Qc0] ++ (enc_weirref05_Fault q4)) :: fs) w') := by
  refine calls_abs ?_; intro R hR
  unfold weirref06_reader__equation.f at hp0
  refine calls_of_runs (fn := Tryz.f39) (c := cd39 []) Tryz.func39 (by kernel_rfl) (al := [.pointer (some ⟨ba0, 0, none⟩)]) rfl (n := 77) rfl ?_
  refine sx_run 7 (todo' := [.inRegion (opsOf (cd39 [1, 0])) [1, 2], .code (cd39 [1, 1])]) (us := [(2, .int .i64 0), (5, .agg (enc_api_Ref (⟨(-1), (⟨#[]⟩ : ByteArray)⟩ : api_Ref)).toArray)]) (by kernel_rfl) ?_
  refine r_alloc (c := (cd39 [1, 0])) (i := 1) (d := (some 3)) (ty := 0) (z := .agg (enc_api_Ref (⟨0, (⟨#[]⟩ : ByteArray)⟩ : api_Ref)).toArray) (t := 51) (cs := enc_api_Ref (⟨0, (⟨#[]⟩ : ByteArray)⟩ : api_Ref)) hS0 (by kernel_rfl) (by kernel_rfl) (by kernel_rfl) (by kernel_rfl) ?_
  intro b1 w2 hS3
  refine r_store (c := (cd39 [1, 0])) (i := 2) (d := none) (ty := 0) (t := 51) (x := (.tmp 3)) (y := (.tmp 5)) (b := b1) (o := 0) (e := 51) (cs := enc_api_Ref (⟨0, (⟨#[]⟩ : ByteArray)⟩ : api_Ref)) (v := .agg (enc_api_Ref (⟨(-1), (⟨#[]⟩ : ByteArray)⟩ : api_Ref)).toArray) (vs := enc_api_Ref (⟨(-1), (⟨#[]⟩ : ByteArray)⟩ : api_Ref)) (cs' := enc_api_Ref (⟨(-1), (⟨#[]⟩ : ByteArray)⟩ : api_Ref)) hS3 (by kernel_rfl) (by kernel_rfl) (by kernel_rfl) (by kernel_rfl) (by kernel_rfl) (by kernel_rfl) (one_api_Ref _) (Nat.le_of_ble_eq_true (by kernel_rfl)) (by kernel_rfl) ?_
  intro w5 hS6
  refine sx_run 6 (todo' := [.inRegion (opsOf (cd39 [1, 1, 0, 0, 0])) [1, 2], .code (cd39 [1, 1, 0, 0, 1]), .inBlock 0, .code (cd39 [1, 1, 1])]) (us := [(10, .pointer (some ⟨ba0, 0, none⟩))]) (by kernel_rfl) ?_
  obtain ⟨t7, hr8, hp9⟩ := bind_some' hp0
  have hS12 := hS6.pick2
  obtain ⟨Z13, hz14, hS15, hs16, hb17⟩ := hS12.lendrow len_api_Node (by omega)
  have hS18 := hS15.pick1
  refine r_call1 (c := (cd39 [1, 1, 0, 0, 0])) (i := 1) (d := (some 11)) (g := 17) (args := #[.pointer (some ⟨ba0, 0, none⟩), .int .i64 0, .int .i64 4, .string (⟨#[91]⟩ : ByteArray)]) (by kernel_rfl) (by kernel_rfl) (by kernel_rfl) (by kernel_rfl) (weirref06_reader__is.ok (⟨a0v.L, a0v.At, a0v.Last, a0v.Deep, a0v.C, a0v.F⟩ : weirref06_reader) 0 4 (⟨#[91]⟩ : ByteArray) ba0 Aa0v_0 ca0v_0 Aa0v_4 ca0v_4 hS18 (ha0v_0.up hz14) hs16 hr8) ?_
  rintro _ w19 ⟨rfl, hS20⟩
  refine ⟨.bool t7, rfl, ?_⟩
  have hS21 := hb17 _ _ hS20
  refine sx_run 2 (todo' := [.code (cd39 [1, 1, 0, 0, 1]), .inBlock 0, .code (cd39 [1, 1, 1])]) (us := [(9, .bool t7)]) (by kernel_rfl) ?_
  obtain ⟨v22, hv23, hp24⟩ := bind_some' hp9
  have J31 : ∀ (t25 : Int) (t26 : api_Token) (t27 : weirref05_Fault) (t28 : api_Ref) (he33 : (t25, t26, t27, t28) = v22) (l32 : List Value) (w29 : World) (hS30 : St w0 Z (xblk ba0 48 ([.slice Aa0v_0 a0v.L.length ca0v_0] ++ [.int .i64 t25] ++ (enc_api_Token t26) ++ [.int .i64 a0v.Deep] ++ [.slice Aa0v_4 a0v.C.length ca0v_4] ++ (enc_weirref05_Fault t27)) :: xrow Aa0v_4 ca0v_4 53 6 (a0v.C.flatMap enc_api_Node) :: xblk b1 51 (enc_api_Ref t28) :: fs) w29), Runs Tryz.prog (fx 39) [.code (cd39 [1, 1, 1])] (fill [some (.pointer (some ⟨ba0, 0, none⟩)), none, none, some (.pointer (some ⟨b1, 0, none⟩)), none, none, none, none, none, none, none, none, none, none, none, none, none, none, none, none, none, none, none, none, none, none, none, none, none, none, none, none, none, none, none, none, none, none, none, none, none, none, none, none, none, none, none, none, none, none, none, none, none, none, none, none, none, none, none, none, none, none, none, none, none, none, none, none, none, none, none, none, none, none, none, none, none, none] l32) w29 R := by
   intro t25 t26 t27 t28 he33 l32 w29 hS30
   subst he33
   try dsimp only at hp24
   refine sx_run 3 (todo' := [.inRegion (opsOf (cd39 [1, 1, 1, 0])) [1], .code (cd39 [1, 1, 1, 1])]) (us := [(69, .pointer (some ⟨ba0, 0, none⟩))]) (by kernel_rfl) ?_
   obtain ⟨⟨t34, t35, t36⟩, hr37, hp38⟩ := bind_some' hp24
   try dsimp only at hp38
   have hS39 := hS30.pick1
   obtain ⟨Z40, hz41, hS42, hs43, hb44⟩ := hS39.lendrow len_api_Node (by omega)
   refine r_call1 (c := (cd39 [1, 1, 1, 0])) (i := 1) (d := (some 70)) (g := 38) (args := #[.pointer (some ⟨ba0, 0, none⟩), .string (⟨#[61]⟩ : ByteArray)]) (by kernel_rfl) (by kernel_rfl) (by kernel_rfl) (by kernel_rfl) (weirref06_reader__sign.ok (⟨a0v.L, t25, t26, a0v.Deep, a0v.C, t27⟩ : weirref06_reader) (⟨#[61]⟩ : ByteArray) ba0 Aa0v_0 ca0v_0 Aa0v_4 ca0v_4 hS42 (ha0v_0.up hz41) hs43 hr37) ?_
   rintro _ w45 ⟨rfl, hS46⟩
   refine ⟨.tuple #[], rfl, ?_⟩
   have hS47 := hb44 _ _ hS46
   refine sx_run 4 (todo' := [.inRegion (opsOf (cd39 [1, 1, 1, 1, 0])) [1, 2], .code (cd39 [1, 1, 1, 1, 1])]) (us := [(71, .pointer (some ⟨ba0, 0, none⟩))]) (by kernel_rfl) ?_
   obtain ⟨⟨t48, t49, t50, t51⟩, hr52, hp53⟩ := bind_some' hp38
   try dsimp only at hp53
   obtain ⟨Z54, hz55, hS56, hs57, hb58⟩ := hS47.lendrow len_api_Node (by omega)
   refine r_call1 (c := (cd39 [1, 1, 1, 1, 0])) (i := 1) (d := (some 72)) (g := 46) (args := #[.pointer (some ⟨ba0, 0, none⟩)]) (by kernel_rfl) (by kernel_rfl) (by kernel_rfl) (by kernel_rfl) (weirref06_reader__number.ok (⟨a0v.L, t34, t35, a0v.Deep, a0v.C, t36⟩ : weirref06_reader) ba0 Aa0v_0 ca0v_0 Aa0v_4 ca0v_4 hS56 (ha0v_0.up hz55) hs57 hr52) ?_
   rintro _ w59 ⟨rfl, hS60⟩
   refine ⟨.int .i64 t48, rfl, ?_⟩
   have hS61 := hb58 _ _ hS60
   refine sx_run 5 (todo' := [.inRegion (opsOf (cd39 [1, 1, 1, 1, 1, 0])) [1, 2, 3, 4, 5], .code (cd39 [1, 1, 1, 1, 1, 1])]) (us := [(4, .int .i64 t48), (73, .pointer (some ⟨ba0, 0, none⟩))]) (by kernel_rfl) ?_
   refine r_load (c := (cd39 [1, 1, 1, 1, 1, 0])) (i := 1) (d := (some 74)) (ty := 51) (t := 51) (x := (.tmp 3)) (p := ⟨b1, 0, none⟩) (v := .agg (enc_api_Ref t28).toArray) (by kernel_rfl) (by kernel_rfl) (by kernel_rfl) (loads_agg (hS61.blk 2 rfl) (by kernel_rfl) (by kernel_rfl)) ?_
   refine sx_run 2 (todo' := [.inRegion (opsOf (cd39 [1, 1, 1, 1, 1, 0])) [4, 5], .code (cd39 [1, 1, 1, 1, 1, 1])]) (us := [(75, .int .i64 t48), (76, .agg (enc_api_Node (⟨2, 0, 0, t28, t48⟩ : api_Node)).toArray)]) (by kernel_rfl) ?_
   obtain ⟨⟨t62, t63, t64⟩, hr67, hp68⟩ := bind_some' hp53
   try dsimp only at hp68
   have hS70 := hS61.pick1
   refine r_call1 (c := (cd39 [1, 1, 1, 1, 1, 0])) (i := 4) (d := (some 77)) (g := 19) (args := #[.pointer (some ⟨ba0, 0, none⟩), .agg (enc_api_Node (⟨2, 0, 0, t28, t48⟩ : api_Node)).toArray]) (by kernel_rfl) (by kernel_rfl) (by kernel_rfl) (by kernel_rfl) (weirref06_reader__node.ok (⟨a0v.L, t49, t50, a0v.Deep, a0v.C, t51⟩ : weirref06_reader) (⟨2, 0, 0, t28, t48⟩ : api_Node) ba0 Aa0v_0 ca0v_0 Aa0v_4 ca0v_4 hS70 ha0v_0 hr67) ?_
   rintro _ w71 ⟨Q65, Q66, rfl, hS72⟩
   refine ⟨.int .i64 t62, rfl, ?_⟩
   refine sx_run 2 (todo' := [.code (cd39 [1, 1, 1, 1, 1, 1])]) (us := [(2, .int .i64 t62)]) (by kernel_rfl) ?_
   have hS73 := hS72.pick2
   have hS74 := hS73.drop
   refine runs_ret (fn := Tryz.f39) (v := .int .i64 t62) Tryz.func39 (by kernel_rfl) ?_
   have hr75 := (Option.some.inj hp68)
   cases hr75
   exact hR _ _ ⟨Q65, Q66, rfl, hS74⟩
  cases t7
  ·skip
   have hp76 := ite_f hv23 rfl
   refine sx_run 2 (todo' := [.code (cd39 [1, 1, 0, 0, 1, 1, 0]), .code (cd39 [1, 1, 0, 0, 1, 1, 1]), .inBlock 0, .code (cd39 [1, 1, 1])]) (us := []) (by kernel_rfl) ?_
   refine r_quiet hS21 (c := (cd39 [1, 1, 0, 0, 1, 1, 0])) (id := 7) (by kernel_rfl) (by kernel_rfl) (by kernel_rfl) (is := [0, 1, 2, 3, 4, 5, 6, 7, 8, 9, 10, 11, 12, 13, 14, 15, 16, 17, 18, 19, 20, 21, 22, 23, 24, 25, 26, 27, 28, 29, 30, 31, 32, 33, 34, 35, 36, 37, 38, 39]) (by kernel_rfl) ?_
   refine q_run 3 (is' := [3, 4, 5, 6, 7, 8, 9, 10, 11, 12, 13, 14, 15, 16, 17, 18, 19, 20, 21, 22, 23, 24, 25, 26, 27, 28, 29, 30, 31, 32, 33, 34, 35, 36, 37, 38, 39]) (us := [(20, .pointer (some ⟨ba0, 0, none⟩)), (21, .pointer (some ⟨ba0, 0, none⟩)), (22, .pointer (some ⟨ba0, 1, none⟩))]) (by kernel_rfl) ?_
   refine q_load (c := (cd39 [1, 1, 0, 0, 1, 1, 0])) (i := 3) (d := (some 23)) (ty := 3) (t := 3) (x := (.tmp 22)) (p := ⟨ba0, 1, none⟩) (v := .int .i64 a0v.At) (by kernel_rfl) (by kernel_rfl) (by kernel_rfl) (fun w hC => (loads_at 1 (hC.blk 1 rfl) (by kernel_rfl) (by kernel_rfl))) ?_
   refine q_run 3 (is' := [7, 8, 9, 10, 11, 12, 13, 14, 15, 16, 17, 18, 19, 20, 21, 22, 23, 24, 25, 26, 27, 28, 29, 30, 31, 32, 33, 34, 35, 36, 37, 38, 39]) (us := [(24, .pointer (some ⟨ba0, 0, none⟩)), (25, .pointer (some ⟨ba0, 0, none⟩)), (26, .pointer (some ⟨ba0, 0, none⟩))]) (by kernel_rfl) ?_
   refine q_load (c := (cd39 [1, 1, 0, 0, 1, 1, 0])) (i := 7) (d := (some 27)) (ty := 22) (t := 22) (x := (.tmp 26)) (p := ⟨ba0, 0, none⟩) (v := .slice Aa0v_0 a0v.L.length ca0v_0) (by kernel_rfl) (by kernel_rfl) (by kernel_rfl) (fun w hC => (loads_at 0 (hC.blk 1 rfl) (by kernel_rfl) (by kernel_rfl))) ?_
   refine q_splitr 2 (is' := [10, 11, 12, 13, 14, 15, 16, 17, 18, 19, 20, 21, 22, 23, 24, 25, 26, 27, 28, 29, 30, 31, 32, 33, 34, 35, 36, 37, 38, 39]) (us := [(28, .int .i64 (a0v.L.length : Int))]) (d := 29) (t := (decide (a0v.At < (a0v.L.length : Int)))) (by kernel_rfl) (fun h77 => ?_) (fun h78 => ?_)
   ·skip
    have hp79 := ite_t hp76 h77
    refine q_run 4 (is' := [14, 15, 16, 17, 18, 19, 20, 21, 22, 23, 24, 25, 26, 27, 28, 29, 30, 31, 32, 33, 34, 35, 36, 37, 38, 39]) (us := [(30, .bool true), (31, .pointer (some ⟨ba0, 0, none⟩)), (32, .pointer (some ⟨ba0, 0, none⟩)), (33, .pointer (some ⟨ba0, 0, none⟩))]) (by kernel_rfl) ?_
    refine q_load (c := (cd39 [1, 1, 0, 0, 1, 1, 0])) (i := 14) (d := (some 34)) (ty := 22) (t := 22) (x := (.tmp 33)) (p := ⟨ba0, 0, none⟩) (v := .slice Aa0v_0 a0v.L.length ca0v_0) (by kernel_rfl) (by kernel_rfl) (by kernel_rfl) (fun w hC => (loads_at 0 (hC.blk 1 rfl) (by kernel_rfl) (by kernel_rfl))) ?_
    refine q_run 3 (is' := [18, 19, 20, 21, 22, 23, 24, 25, 26, 27, 28, 29, 30, 31, 32, 33, 34, 35, 36, 37, 38, 39]) (us := [(35, .pointer (some ⟨ba0, 0, none⟩)), (36, .pointer (some ⟨ba0, 0, none⟩)), (37, .pointer (some ⟨ba0, 1, none⟩))]) (by kernel_rfl) ?_
    refine q_load (c := (cd39 [1, 1, 0, 0, 1, 1, 0])) (i := 18) (d := (some 38)) (ty := 3) (t := 3) (x := (.tmp 37)) (p := ⟨ba0, 1, none⟩) (v := .int .i64 a0v.At) (by kernel_rfl) (by kernel_rfl) (by kernel_rfl) (fun w hC => (loads_at 1 (hC.blk 1 rfl) (by kernel_rfl) (by kernel_rfl))) ?_
    obtain ⟨g80, hp81⟩ := ite_some hp79
    obtain ⟨b82, p83, hA84, hc85⟩ := ha0v_0.atF g80.1 g80.2
    refine q_indexAddr (c := (cd39 [1, 1, 0, 0, 1, 1, 0])) (i := 19) (d := (some 39)) (ty := 0) (t := 22) (e := 24) (n := a0v.L.length) (cp := ca0v_0) (sz := 7) (kk := .i64) (x := (.tmp 34)) (y := (.tmp 38)) (b := b82) (o' := p83) (j := a0v.At) (by kernel_rfl) (by kernel_rfl) (slv (by kernel_rfl) hA84) (by kernel_rfl) (by kernel_rfl) (by kernel_rfl) g80.1 g80.2 ?_
    refine q_run 1 (is' := [21, 22, 23, 24, 25, 26, 27, 28, 29, 30, 31, 32, 33, 34, 35, 36, 37, 38, 39]) (us := [(40, .pointer (some ⟨b82, p83 + a0v.At.toNat * 7, none⟩))]) (by kernel_rfl) ?_
    refine q_load (c := (cd39 [1, 1, 0, 0, 1, 1, 0])) (i := 21) (d := (some 41)) (ty := 3) (t := 3) (x := (.tmp 40)) (p := ⟨b82, p83 + a0v.At.toNat * 7, none⟩) (v := .int .i64 ((gt a0v.L a0v.At).Kind)) (by kernel_rfl) (by kernel_rfl) (by kernel_rfl) (fun w hC => (loads_at 0 (hc85.cells hC) (by kernel_rfl) (by kernel_rfl))) ?_
    refine q_splitr 1 (is' := [23, 24, 25, 26, 27, 28, 29, 30, 31, 32, 33, 34, 35, 36, 37, 38, 39]) (us := []) (d := 42) (t := (((gt a0v.L a0v.At).Kind) == 2)) (by kernel_rfl) (fun h86 => ?_) (fun h87 => ?_)
    ·skip
     have hp88 := ite_t hp81 h86
     refine q_run 5 (is' := [28, 29, 30, 31, 32, 33, 34, 35, 36, 37, 38, 39]) (us := [(43, .bool true), (44, .bool true), (45, .pointer (some ⟨ba0, 0, none⟩)), (46, .pointer (some ⟨ba0, 0, none⟩)), (47, .pointer (some ⟨ba0, 0, none⟩))]) (by kernel_rfl) ?_
     refine q_load (c := (cd39 [1, 1, 0, 0, 1, 1, 0])) (i := 28) (d := (some 48)) (ty := 22) (t := 22) (x := (.tmp 47)) (p := ⟨ba0, 0, none⟩) (v := .slice Aa0v_0 a0v.L.length ca0v_0) (by kernel_rfl) (by kernel_rfl) (by kernel_rfl) (fun w hC => (loads_at 0 (hC.blk 1 rfl) (by kernel_rfl) (by kernel_rfl))) ?_
     refine q_run 3 (is' := [32, 33, 34, 35, 36, 37, 38, 39]) (us := [(49, .pointer (some ⟨ba0, 0, none⟩)), (50, .pointer (some ⟨ba0, 0, none⟩)), (51, .pointer (some ⟨ba0, 1, none⟩))]) (by kernel_rfl) ?_
     refine q_load (c := (cd39 [1, 1, 0, 0, 1, 1, 0])) (i := 32) (d := (some 52)) (ty := 3) (t := 3) (x := (.tmp 51)) (p := ⟨ba0, 1, none⟩) (v := .int .i64 a0v.At) (by kernel_rfl) (by kernel_rfl) (by kernel_rfl) (fun w hC => (loads_at 1 (hC.blk 1 rfl) (by kernel_rfl) (by kernel_rfl))) ?_
     obtain ⟨g89, hp90⟩ := ite_some hp88
     obtain ⟨b91, p92, hA93, hc94⟩ := ha0v_0.atF g89.1 g89.2
     refine q_indexAddr (c := (cd39 [1, 1, 0, 0, 1, 1, 0])) (i := 33) (d := (some 53)) (ty := 0) (t := 22) (e := 24) (n := a0v.L.length) (cp := ca0v_0) (sz := 7) (kk := .i64) (x := (.tmp 48)) (y := (.tmp 52)) (b := b91) (o' := p92) (j := a0v.At) (by kernel_rfl) (by kernel_rfl) (slv (by kernel_rfl) hA93) (by kernel_rfl) (by kernel_rfl) (by kernel_rfl) g89.1 g89.2 ?_
     refine q_run 1 (is' := [35, 36, 37, 38, 39]) (us := [(54, .pointer (some ⟨b91, p92 + a0v.At.toNat * 7 + 1, none⟩))]) (by kernel_rfl) ?_
     refine q_load (c := (cd39 [1, 1, 0, 0, 1, 1, 0])) (i := 35) (d := (some 55)) (ty := 9) (t := 9) (x := (.tmp 54)) (p := ⟨b91, p92 + a0v.At.toNat * 7 + 1, none⟩) (v := .string ((gt a0v.L a0v.At).Text)) (by kernel_rfl) (by kernel_rfl) (by kernel_rfl) (fun w hC => (loads_at 1 (hc94.cells hC) (by kernel_rfl) (by kernel_rfl))) ?_
     obtain ⟨t95, hr96, hp97⟩ := bind_some' hp90
     refine q_call1 (c := (cd39 [1, 1, 0, 0, 1, 1, 0])) (i := 36) (d := (some 56)) (v := .int .i64 t95) (g := 45) (args := #[.string ((gt a0v.L a0v.At).Text)]) (by kernel_rfl) (by kernel_rfl) (by kernel_rfl) (by kernel_rfl) (fun w hC => by
      refine (weirref06_thread.ok ((gt a0v.L a0v.At).Text) hC hr96).mono ?_
      rintro e w2 ⟨rfl, h2⟩
      have hS98 := h2.pick2
      have hS99 := hS98.pick2
      have hS100 := hS99.pick2
      exact ⟨rfl, hS100⟩) ?_
     refine q_splitr 1 (is' := [38, 39]) (us := []) (d := 57) (t := (decide (t95 ≥ 0))) (by kernel_rfl) (fun h101 => ?_) (fun h102 => ?_)
     ·skip
      have hp103 := ite_t hp97 h101
      refine q_run 2 (is' := []) (us := [(58, .bool true), (19, .bool true)]) (by kernel_rfl) ?_
      refine Qs.nil ?_
      intro w104 hS105
      refine sx_run 4 (todo' := [.inRegion (opsOf (cd39 [1, 1, 0, 0, 1, 1, 1, 0, 0])) [1, 2, 3, 4, 5], .code (cd39 [1, 1, 0, 0, 1, 1, 1, 0, 1]), .inBlock 0, .code (cd39 [1, 1, 1])]) (us := [(59, .pointer (some ⟨ba0, 0, none⟩))]) (by kernel_rfl) ?_
      obtain ⟨⟨t106, t107, t108⟩, hr109, hp110⟩ := bind_some' hp103
      try dsimp only at hp110
      obtain ⟨Z111, hz112, hS113, hs114, hb115⟩ := hS105.lendrow len_api_Node (by omega)
      refine r_call1 (c := (cd39 [1, 1, 0, 0, 1, 1, 1, 0, 0])) (i := 1) (d := (some 60)) (g := 18) (args := #[.pointer (some ⟨ba0, 0, none⟩)]) (by kernel_rfl) (by kernel_rfl) (by kernel_rfl) (by kernel_rfl) (weirref06_reader__take.ok (⟨a0v.L, a0v.At, a0v.Last, a0v.Deep, a0v.C, a0v.F⟩ : weirref06_reader) ba0 Aa0v_0 ca0v_0 Aa0v_4 ca0v_4 hS113 (ha0v_0.up hz112) hs114 hr109) ?_
      rintro _ w116 ⟨rfl, hS117⟩
      refine ⟨.agg (enc_api_Token t106).toArray, rfl, ?_⟩
      have hS118 := hb115 _ _ hS117
      refine sx_run 1 (todo' := [.inRegion (opsOf (cd39 [1, 1, 0, 0, 1, 1, 1, 0, 0])) [3, 4, 5], .code (cd39 [1, 1, 0, 0, 1, 1, 1, 0, 1]), .inBlock 0, .code (cd39 [1, 1, 1])]) (us := [(61, .string t106.Text)]) (by kernel_rfl) ?_
      obtain ⟨t119, hr120, hp121⟩ := bind_some' hp110
      refine r_call1 (c := (cd39 [1, 1, 0, 0, 1, 1, 1, 0, 0])) (i := 3) (d := (some 62)) (g := 45) (args := #[.string t106.Text]) (by kernel_rfl) (by kernel_rfl) (by kernel_rfl) (by kernel_rfl) (weirref06_thread.ok t106.Text hS118 hr120) ?_
      rintro _ w122 ⟨rfl, hS123⟩
      refine ⟨.int .i64 t119, rfl, ?_⟩
      refine sx_run 1 (todo' := [.inRegion (opsOf (cd39 [1, 1, 0, 0, 1, 1, 1, 0, 0])) [5], .code (cd39 [1, 1, 0, 0, 1, 1, 1, 0, 1]), .inBlock 0, .code (cd39 [1, 1, 1])]) (us := [(63, .pointer (some ⟨b1, 0, none⟩))]) (by kernel_rfl) ?_
      have hS124 := hS123.pick2
      refine r_store (c := (cd39 [1, 1, 0, 0, 1, 1, 1, 0, 0])) (i := 5) (d := none) (ty := 0) (t := 3) (x := (.tmp 63)) (y := (.tmp 62)) (b := b1) (o := 0) (e := 51) (cs := enc_api_Ref (⟨(-1), (⟨#[]⟩ : ByteArray)⟩ : api_Ref)) (v := .int .i64 t119) (vs := [.int .i64 t119]) (cs' := enc_api_Ref (⟨t119, (⟨#[]⟩ : ByteArray)⟩ : api_Ref)) hS124 (by kernel_rfl) (by kernel_rfl) (by kernel_rfl) (by kernel_rfl) (by kernel_rfl) (by kernel_rfl) (by kernel_rfl) (Nat.le_of_ble_eq_true (by kernel_rfl)) (by kernel_rfl) ?_
      intro w125 hS126
      refine sx_run 4 (todo' := [.inRegion (opsOf (cd39 [1, 1, 0, 0, 1, 1, 1, 0, 1, 0])) [1], .code (cd39 [1, 1, 0, 0, 1, 1, 1, 0, 1, 1]), .inBlock 0, .code (cd39 [1, 1, 1])]) (us := [(64, .pointer (some ⟨ba0, 0, none⟩))]) (by kernel_rfl) ?_
      obtain ⟨⟨t127, t128, t129⟩, hr130, hp131⟩ := bind_some' hp121
      try dsimp only at hp131
      have hS132 := hS126.pick1
      obtain ⟨Z133, hz134, hS135, hs136, hb137⟩ := hS132.lendrow len_api_Node (by omega)
      have hS138 := hS135.pick1
      refine r_call1 (c := (cd39 [1, 1, 0, 0, 1, 1, 1, 0, 1, 0])) (i := 1) (d := (some 65)) (g := 38) (args := #[.pointer (some ⟨ba0, 0, none⟩), .string (⟨#[58]⟩ : ByteArray)]) (by kernel_rfl) (by kernel_rfl) (by kernel_rfl) (by kernel_rfl) (weirref06_reader__sign.ok (⟨a0v.L, t107, t108, a0v.Deep, a0v.C, a0v.F⟩ : weirref06_reader) (⟨#[58]⟩ : ByteArray) ba0 Aa0v_0 ca0v_0 Aa0v_4 ca0v_4 hS138 (ha0v_0.up hz134) hs136 hr130) ?_
      rintro _ w139 ⟨rfl, hS140⟩
      refine ⟨.tuple #[], rfl, ?_⟩
      have hS141 := hb137 _ _ hS140
      refine sx_run 3 (todo' := [.inRegion (opsOf (cd39 [1, 1, 0, 0, 1, 1, 1, 0, 1, 1])) [1, 2, 3], .inBlock 0, .code (cd39 [1, 1, 1])]) (us := [(66, .pointer (some ⟨ba0, 0, none⟩))]) (by kernel_rfl) ?_
      obtain ⟨⟨t142, t143, t144, t145⟩, hr146, hp147⟩ := bind_some' hp131
      try dsimp only at hp147
      obtain ⟨Z148, hz149, hS150, hs151, hb152⟩ := hS141.lendrow len_api_Node (by omega)
      refine r_call1 (c := (cd39 [1, 1, 0, 0, 1, 1, 1, 0, 1, 1])) (i := 1) (d := (some 67)) (g := 44) (args := #[.pointer (some ⟨ba0, 0, none⟩)]) (by kernel_rfl) (by kernel_rfl) (by kernel_rfl) (by kernel_rfl) (weirref06_reader__name.ok (⟨a0v.L, t127, t128, a0v.Deep, a0v.C, t129⟩ : weirref06_reader) ba0 Aa0v_0 ca0v_0 Aa0v_4 ca0v_4 hS150 (ha0v_0.up hz149) hs151 hr146) ?_
      rintro _ w153 ⟨rfl, hS154⟩
      refine ⟨.string t142, rfl, ?_⟩
      have hS155 := hb152 _ _ hS154
      refine sx_run 1 (todo' := [.inRegion (opsOf (cd39 [1, 1, 0, 0, 1, 1, 1, 0, 1, 1])) [3], .inBlock 0, .code (cd39 [1, 1, 1])]) (us := [(68, .pointer (some ⟨b1, 1, none⟩))]) (by kernel_rfl) ?_
      have hS156 := hS155.pick2
      refine r_store (c := (cd39 [1, 1, 0, 0, 1, 1, 1, 0, 1, 1])) (i := 3) (d := none) (ty := 0) (t := 9) (x := (.tmp 68)) (y := (.tmp 67)) (b := b1) (o := 1) (e := 51) (cs := enc_api_Ref (⟨t119, (⟨#[]⟩ : ByteArray)⟩ : api_Ref)) (v := .string t142) (vs := [.string t142]) (cs' := enc_api_Ref (⟨t119, t142⟩ : api_Ref)) hS156 (by kernel_rfl) (by kernel_rfl) (by kernel_rfl) (by kernel_rfl) (by kernel_rfl) (by kernel_rfl) (by kernel_rfl) (Nat.le_of_ble_eq_true (by kernel_rfl)) (by kernel_rfl) ?_
      intro w157 hS158
      refine sx_run 2 (todo' := [.code (cd39 [1, 1, 1])]) (us := []) (by kernel_rfl) ?_
      have hS159 := hS158.pick1
      have hS160 := hS159.pick2
      refine Runs.fill (m := [some (.pointer (some ⟨ba0, 0, none⟩)), none, none, some (.pointer (some ⟨b1, 0, none⟩)), none, none, none, none, none, none, none, none, none, none, none, none, none, none, none, none, none, none, none, none, none, none, none, none, none, none, none, none, none, none, none, none, none, none, none, none, none, none, none, none, none, none, none, none, none, none, none, none, none, none, none, none, none, none, none, none, none, none, none, none, none, none, none, none, none, none, none, none, none, none, none, none, none, none]) (by kernel_rfl) ?_
      exact J31 t143 t144 t145 (⟨t119, t142⟩ : api_Ref) (Option.some.inj hp147) _ _ hS160
     ·skip
      have hp161 := ite_f hp97 h102
      refine q_run 2 (is' := []) (us := [(58, .bool false), (19, .bool false)]) (by kernel_rfl) ?_
      refine Qs.nil ?_
      intro w162 hS163
      refine sx_run 3 (todo' := [.inRegion (opsOf (cd39 [1, 1, 0, 0, 1, 1, 1, 1])) [1, 2, 3], .inBlock 0, .code (cd39 [1, 1, 1])]) (us := [(6, .pointer (some ⟨ba0, 0, none⟩))]) (by kernel_rfl) ?_
      obtain ⟨⟨t164, t165, t166, t167⟩, hr168, hp169⟩ := bind_some' hp161
      try dsimp only at hp169
      obtain ⟨Z170, hz171, hS172, hs173, hb174⟩ := hS163.lendrow len_api_Node (by omega)
      refine r_call1 (c := (cd39 [1, 1, 0, 0, 1, 1, 1, 1])) (i := 1) (d := (some 7)) (g := 44) (args := #[.pointer (some ⟨ba0, 0, none⟩)]) (by kernel_rfl) (by kernel_rfl) (by kernel_rfl) (by kernel_rfl) (weirref06_reader__name.ok (⟨a0v.L, a0v.At, a0v.Last, a0v.Deep, a0v.C, a0v.F⟩ : weirref06_reader) ba0 Aa0v_0 ca0v_0 Aa0v_4 ca0v_4 hS172 (ha0v_0.up hz171) hs173 hr168) ?_
      rintro _ w175 ⟨rfl, hS176⟩
      refine ⟨.string t164, rfl, ?_⟩
      have hS177 := hb174 _ _ hS176
      refine sx_run 1 (todo' := [.inRegion (opsOf (cd39 [1, 1, 0, 0, 1, 1, 1, 1])) [3], .inBlock 0, .code (cd39 [1, 1, 1])]) (us := [(8, .pointer (some ⟨b1, 1, none⟩))]) (by kernel_rfl) ?_
      have hS178 := hS177.pick2
      refine r_store (c := (cd39 [1, 1, 0, 0, 1, 1, 1, 1])) (i := 3) (d := none) (ty := 0) (t := 9) (x := (.tmp 8)) (y := (.tmp 7)) (b := b1) (o := 1) (e := 51) (cs := enc_api_Ref (⟨(-1), (⟨#[]⟩ : ByteArray)⟩ : api_Ref)) (v := .string t164) (vs := [.string t164]) (cs' := enc_api_Ref (⟨(-1), t164⟩ : api_Ref)) hS178 (by kernel_rfl) (by kernel_rfl) (by kernel_rfl) (by kernel_rfl) (by kernel_rfl) (by kernel_rfl) (by kernel_rfl) (Nat.le_of_ble_eq_true (by kernel_rfl)) (by kernel_rfl) ?_
      intro w179 hS180
      refine sx_run 2 (todo' := [.code (cd39 [1, 1, 1])]) (us := []) (by kernel_rfl) ?_
      have hS181 := hS180.pick1
      have hS182 := hS181.pick2
      refine Runs.fill (m := [some (.pointer (some ⟨ba0, 0, none⟩)), none, none, some (.pointer (some ⟨b1, 0, none⟩)), none, none, none, none, none, none, none, none, none, none, none, none, none, none, none, none, none, none, none, none, none, none, none, none, none, none, none, none, none, none, none, none, none, none, none, none, none, none, none, none, none, none, none, none, none, none, none, none, none, none, none, none, none, none, none, none, none, none, none, none, none, none, none, none, none, none, none, none, none, none, none, none, none, none]) (by kernel_rfl) ?_
      exact J31 t165 t166 t167 (⟨(-1), t164⟩ : api_Ref) (Option.some.inj hp169) _ _ hS182
    ·skip
     have hp183 := ite_f hp81 h87
     refine q_run 17 (is' := []) (us := [(43, .bool false), (44, .bool false), (45, undef), (46, undef), (47, undef), (48, undef), (49, undef), (50, undef), (51, undef), (52, undef), (53, undef), (54, undef), (55, undef), (56, undef), (57, undef), (58, .bool false), (19, .bool false)]) (by kernel_rfl) ?_
     refine Qs.nil ?_
     intro w184 hS185
     refine sx_run 3 (todo' := [.inRegion (opsOf (cd39 [1, 1, 0, 0, 1, 1, 1, 1])) [1, 2, 3], .inBlock 0, .code (cd39 [1, 1, 1])]) (us := [(6, .pointer (some ⟨ba0, 0, none⟩))]) (by kernel_rfl) ?_
     obtain ⟨⟨t186, t187, t188, t189⟩, hr190, hp191⟩ := bind_some' hp183
     try dsimp only at hp191
     obtain ⟨Z192, hz193, hS194, hs195, hb196⟩ := hS185.lendrow len_api_Node (by omega)
     refine r_call1 (c := (cd39 [1, 1, 0, 0, 1, 1, 1, 1])) (i := 1) (d := (some 7)) (g := 44) (args := #[.pointer (some ⟨ba0, 0, none⟩)]) (by kernel_rfl) (by kernel_rfl) (by kernel_rfl) (by kernel_rfl) (weirref06_reader__name.ok (⟨a0v.L, a0v.At, a0v.Last, a0v.Deep, a0v.C, a0v.F⟩ : weirref06_reader) ba0 Aa0v_0 ca0v_0 Aa0v_4 ca0v_4 hS194 (ha0v_0.up hz193) hs195 hr190) ?_
     rintro _ w197 ⟨rfl, hS198⟩
     refine ⟨.string t186, rfl, ?_⟩
     have hS199 := hb196 _ _ hS198
     refine sx_run 1 (todo' := [.inRegion (opsOf (cd39 [1, 1, 0, 0, 1, 1, 1, 1])) [3], .inBlock 0, .code (cd39 [1, 1, 1])]) (us := [(8, .pointer (some ⟨b1, 1, none⟩))]) (by kernel_rfl) ?_
     have hS200 := hS199.pick2
     refine r_store (c := (cd39 [1, 1, 0, 0, 1, 1, 1, 1])) (i := 3) (d := none) (ty := 0) (t := 9) (x := (.tmp 8)) (y := (.tmp 7)) (b := b1) (o := 1) (e := 51) (cs := enc_api_Ref (⟨(-1), (⟨#[]⟩ : ByteArray)⟩ : api_Ref)) (v := .string t186) (vs := [.string t186]) (cs' := enc_api_Ref (⟨(-1), t186⟩ : api_Ref)) hS200 (by kernel_rfl) (by kernel_rfl) (by kernel_rfl) (by kernel_rfl) (by kernel_rfl) (by kernel_rfl) (by kernel_rfl) (Nat.le_of_ble_eq_true (by kernel_rfl)) (by kernel_rfl) ?_
     intro w201 hS202
     refine sx_run 2 (todo' := [.code (cd39 [1, 1, 1])]) (us := []) (by kernel_rfl) ?_
     have hS203 := hS202.pick1
     have hS204 := hS203.pick2
     refine Runs.fill (m := [some (.pointer (some ⟨ba0, 0, none⟩)), none, none, some (.pointer (some ⟨b1, 0, none⟩)), none, none, none, none, none, none, none, none, none, none, none, none, none, none, none, none, none, none, none, none, none, none, none, none, none, none, none, none, none, none, none, none, none, none, none, none, none, none, none, none, none, none, none, none, none, none, none, none, none, none, none, none, none, none, none, none, none, none, none, none, none, none, none, none, none, none, none, none, none, none, none, none, none, none]) (by kernel_rfl) ?_
     exact J31 t187 t188 t189 (⟨(-1), t186⟩ : api_Ref) (Option.some.inj hp191) _ _ hS204
   ·skip
    have hp205 := ite_f hp76 h78
    refine q_run 30 (is' := []) (us := [(30, .bool false), (31, undef), (32, undef), (33, undef), (34, undef), (35, undef), (36, undef), (37, undef), (38, undef), (39, undef), (40, undef), (41, undef), (42, undef), (43, .bool false), (44, .bool false), (45, undef), (46, undef), (47, undef), (48, undef), (49, undef), (50, undef), (51, undef), (52, undef), (53, undef), (54, undef), (55, undef), (56, undef), (57, undef), (58, .bool false), (19, .bool false)]) (by kernel_rfl) ?_
    refine Qs.nil ?_
    intro w206 hS207
    refine sx_run 3 (todo' := [.inRegion (opsOf (cd39 [1, 1, 0, 0, 1, 1, 1, 1])) [1, 2, 3], .inBlock 0, .code (cd39 [1, 1, 1])]) (us := [(6, .pointer (some ⟨ba0, 0, none⟩))]) (by kernel_rfl) ?_
    obtain ⟨⟨t208, t209, t210, t211⟩, hr212, hp213⟩ := bind_some' hp205
    try dsimp only at hp213
    obtain ⟨Z214, hz215, hS216, hs217, hb218⟩ := hS207.lendrow len_api_Node (by omega)
    refine r_call1 (c := (cd39 [1, 1, 0, 0, 1, 1, 1, 1])) (i := 1) (d := (some 7)) (g := 44) (args := #[.pointer (some ⟨ba0, 0, none⟩)]) (by kernel_rfl) (by kernel_rfl) (by kernel_rfl) (by kernel_rfl) (weirref06_reader__name.ok (⟨a0v.L, a0v.At, a0v.Last, a0v.Deep, a0v.C, a0v.F⟩ : weirref06_reader) ba0 Aa0v_0 ca0v_0 Aa0v_4 ca0v_4 hS216 (ha0v_0.up hz215) hs217 hr212) ?_
    rintro _ w219 ⟨rfl, hS220⟩
    refine ⟨.string t208, rfl, ?_⟩
    have hS221 := hb218 _ _ hS220
    refine sx_run 1 (todo' := [.inRegion (opsOf (cd39 [1, 1, 0, 0, 1, 1, 1, 1])) [3], .inBlock 0, .code (cd39 [1, 1, 1])]) (us := [(8, .pointer (some ⟨b1, 1, none⟩))]) (by kernel_rfl) ?_
    have hS222 := hS221.pick2
    refine r_store (c := (cd39 [1, 1, 0, 0, 1, 1, 1, 1])) (i := 3) (d := none) (ty := 0) (t := 9) (x := (.tmp 8)) (y := (.tmp 7)) (b := b1) (o := 1) (e := 51) (cs := enc_api_Ref (⟨(-1), (⟨#[]⟩ : ByteArray)⟩ : api_Ref)) (v := .string t208) (vs := [.string t208]) (cs' := enc_api_Ref (⟨(-1), t208⟩ : api_Ref)) hS222 (by kernel_rfl) (by kernel_rfl) (by kernel_rfl) (by kernel_rfl) (by kernel_rfl) (by kernel_rfl) (by kernel_rfl) (Nat.le_of_ble_eq_true (by kernel_rfl)) (by kernel_rfl) ?_
    intro w223 hS224
    refine sx_run 2 (todo' := [.code (cd39 [1, 1, 1])]) (us := []) (by kernel_rfl) ?_
    have hS225 := hS224.pick1
    have hS226 := hS225.pick2
    refine Runs.fill (m := [some (.pointer (some ⟨ba0, 0, none⟩)), none, none, some (.pointer (some ⟨b1, 0, none⟩)), none, none, none, none, none, none, none, none, none, none, none, none, none, none, none, none, none, none, none, none, none, none, none, none, none, none, none, none, none, none, none, none, none, none, none, none, none, none, none, none, none, none, none, none, none, none, none, none, none, none, none, none, none, none, none, none, none, none, none, none, none, none, none, none, none, none, none, none, none, none, none, none, none, none]) (by kernel_rfl) ?_
    exact J31 t209 t210 t211 (⟨(-1), t208⟩ : api_Ref) (Option.some.inj hp213) _ _ hS226
  ·skip
   have hp227 := ite_t hv23 rfl
   refine sx_run 4 (todo' := [.inRegion (opsOf (cd39 [1, 1, 0, 0, 1, 0, 0])) [1], .code (cd39 [1, 1, 0, 0, 1, 0, 1]), .inBlock 0, .code (cd39 [1, 1, 1])]) (us := [(12, .pointer (some ⟨ba0, 0, none⟩))]) (by kernel_rfl) ?_
   obtain ⟨⟨t228, t229, t230⟩, hr231, hp232⟩ := bind_some' hp227
   try dsimp only at hp232
   obtain ⟨Z233, hz234, hS235, hs236, hb237⟩ := hS21.lendrow len_api_Node (by omega)
   refine r_call1 (c := (cd39 [1, 1, 0, 0, 1, 0, 0])) (i := 1) (d := (some 13)) (g := 18) (args := #[.pointer (some ⟨ba0, 0, none⟩)]) (by kernel_rfl) (by kernel_rfl) (by kernel_rfl) (by kernel_rfl) (weirref06_reader__take.ok (⟨a0v.L, a0v.At, a0v.Last, a0v.Deep, a0v.C, a0v.F⟩ : weirref06_reader) ba0 Aa0v_0 ca0v_0 Aa0v_4 ca0v_4 hS235 (ha0v_0.up hz234) hs236 hr231) ?_
   rintro _ w238 ⟨rfl, hS239⟩
   refine ⟨.agg (enc_api_Token t228).toArray, rfl, ?_⟩
   have hS240 := hb237 _ _ hS239
   refine sx_run 4 (todo' := [.inRegion (opsOf (cd39 [1, 1, 0, 0, 1, 0, 1, 0])) [1, 2, 3], .code (cd39 [1, 1, 0, 0, 1, 0, 1, 1]), .inBlock 0, .code (cd39 [1, 1, 1])]) (us := [(14, .pointer (some ⟨ba0, 0, none⟩))]) (by kernel_rfl) ?_
   obtain ⟨⟨t241, t242, t243, t244⟩, hr245, hp246⟩ := bind_some' hp232
   try dsimp only at hp246
   obtain ⟨Z247, hz248, hS249, hs250, hb251⟩ := hS240.lendrow len_api_Node (by omega)
   refine r_call1 (c := (cd39 [1, 1, 0, 0, 1, 0, 1, 0])) (i := 1) (d := (some 15)) (g := 44) (args := #[.pointer (some ⟨ba0, 0, none⟩)]) (by kernel_rfl) (by kernel_rfl) (by kernel_rfl) (by kernel_rfl) (weirref06_reader__name.ok (⟨a0v.L, t229, t230, a0v.Deep, a0v.C, a0v.F⟩ : weirref06_reader) ba0 Aa0v_0 ca0v_0 Aa0v_4 ca0v_4 hS249 (ha0v_0.up hz248) hs250 hr245) ?_
   rintro _ w252 ⟨rfl, hS253⟩
   refine ⟨.string t241, rfl, ?_⟩
   have hS254 := hb251 _ _ hS253
   refine sx_run 1 (todo' := [.inRegion (opsOf (cd39 [1, 1, 0, 0, 1, 0, 1, 0])) [3], .code (cd39 [1, 1, 0, 0, 1, 0, 1, 1]), .inBlock 0, .code (cd39 [1, 1, 1])]) (us := [(16, .pointer (some ⟨b1, 1, none⟩))]) (by kernel_rfl) ?_
   have hS255 := hS254.pick2
   refine r_store (c := (cd39 [1, 1, 0, 0, 1, 0, 1, 0])) (i := 3) (d := none) (ty := 0) (t := 9) (x := (.tmp 16)) (y := (.tmp 15)) (b := b1) (o := 1) (e := 51) (cs := enc_api_Ref (⟨(-1), (⟨#[]⟩ : ByteArray)⟩ : api_Ref)) (v := .string t241) (vs := [.string t241]) (cs' := enc_api_Ref (⟨(-1), t241⟩ : api_Ref)) hS255 (by kernel_rfl) (by kernel_rfl) (by kernel_rfl) (by kernel_rfl) (by kernel_rfl) (by kernel_rfl) (by kernel_rfl) (Nat.le_of_ble_eq_true (by kernel_rfl)) (by kernel_rfl) ?_
   intro w256 hS257
   refine sx_run 3 (todo' := [.inRegion (opsOf (cd39 [1, 1, 0, 0, 1, 0, 1, 1])) [1], .inBlock 0, .code (cd39 [1, 1, 1])]) (us := [(17, .pointer (some ⟨ba0, 0, none⟩))]) (by kernel_rfl) ?_
   obtain ⟨⟨t258, t259, t260⟩, hr261, hp262⟩ := bind_some' hp246
   try dsimp only at hp262
   have hS263 := hS257.pick1
   obtain ⟨Z264, hz265, hS266, hs267, hb268⟩ := hS263.lendrow len_api_Node (by omega)
   have hS269 := hS266.pick1
   refine r_call1 (c := (cd39 [1, 1, 0, 0, 1, 0, 1, 1])) (i := 1) (d := (some 18)) (g := 38) (args := #[.pointer (some ⟨ba0, 0, none⟩), .string (⟨#[93]⟩ : ByteArray)]) (by kernel_rfl) (by kernel_rfl) (by kernel_rfl) (by kernel_rfl) (weirref06_reader__sign.ok (⟨a0v.L, t242, t243, a0v.Deep, a0v.C, t244⟩ : weirref06_reader) (⟨#[93]⟩ : ByteArray) ba0 Aa0v_0 ca0v_0 Aa0v_4 ca0v_4 hS269 (ha0v_0.up hz265) hs267 hr261) ?_
   rintro _ w270 ⟨rfl, hS271⟩
   refine ⟨.tuple #[], rfl, ?_⟩
   have hS272 := hb268 _ _ hS271
   refine sx_run 2 (todo' := [.code (cd39 [1, 1, 1])]) (us := []) (by kernel_rfl) ?_
   have hS273 := hS272.pick2
   have hS274 := hS273.pick1
   have hS275 := hS274.pick2
   refine Runs.fill (m := [some (.pointer (some ⟨ba0, 0, none⟩)), none, none, some (.pointer (some ⟨b1, 0, none⟩)), none, none, none, none, none, none, none, none, none, none, none, none, none, none, none, none, none, none, none, none, none, none, none, none, none, none, none, none, none, none, none, none, none, none, none, none, none, none, none, none, none, none, none, none, none, none, none, none, none, none, none, none, none, none, none, none, none, none, none, none, none, none, none, none, none, none, none, none, none, none, none, none, none, none]) (by kernel_rfl) ?_
   exact J31 t258 t259 t260 (⟨(-1), t241⟩ : api_Ref) (Option.some.inj hp262) _ _ hS275

def weirref06_reader__not.Spec (rec : weirref06_reader → Option (Int × (List api_Token) × Int × api_Token × Int × (List api_Node) × weirref05_Fault)) : Prop := ∀ (a0v : weirref06_reader) (ba0 : Nat) (Aa0v_0 : Option Addr) (ca0v_0 : Nat) (Aa0v_4 : Option Addr) (ca0v_4 : Nat) {w0 : World} {Z : Zm} {fs : List XObj} {w : World} (_ : St w0 Z (xblk ba0 48 ([.slice Aa0v_0 a0v.L.length ca0v_0] ++ [.int .i64 a0v.At] ++ (enc_api_Token a0v.Last) ++ [.int .i64 a0v.Deep] ++ [.slice Aa0v_4 a0v.C.length ca0v_4] ++ (enc_weirref05_Fault a0v.F)) :: xrow Aa0v_4 ca0v_4 53 6 (a0v.C.flatMap enc_api_Node) :: fs) w) (_ : SlZ (flat enc_api_Token) 7 Z Aa0v_0 ca0v_0 a0v.L) {q0 : Int} {q1 : List api_Token} {q2 : Int} {q3 : api_Token} {q4 : Int} {q5 : List api_Node} {q6 : weirref05_Fault}, rec a0v = some (q0, q1, q2, q3, q4, q5, q6) →
    Calls Tryz.prog 28 #[.pointer (some ⟨ba0, 0, none⟩)] w (fun e w' => ∃ (QA0 : Option Addr) (Qc0 : Nat) (QA2 : Option Addr) (Qc2 : Nat), e = .returned (.int .i64 q0) ∧ St w0 Z (xrow QA2 Qc2 53 6 (q5.flatMap enc_api_Node) :: xblk ba0 48 ([.slice QA0 q1.length Qc0] ++ [.int .i64 q2] ++ (enc_api_Token q3) ++ [.int .i64 q4] ++ [.slice QA2 q5.length Qc2] ++ (enc_weirref05_Fault q6)) :: fs) w' ∧ SlZ (flat enc_api_Token) 7 Z QA0 Qc0 q1)

noncomputable def cd16 (p : List Nat) : Code := sub (bodyOf Tryz.f16) p
def weirref06_reader__and_2.l0 (rec_weirref06_reader__not : weirref06_reader → Option (Int × (List api_Token) × Int × api_Token × Int × (List api_Node) × weirref05_Fault)) (t45 : Int) (t46 : List api_Token) (t51 : Int) (t52 : api_Token) (t53 : Int) (t54 : List api_Node) (t58 : weirref05_Fault) : Option (Int × (List api_Token) × Int × api_Token × Int × (List api_Node) × weirref05_Fault) :=
  (weirref06_reader__is.f (⟨t46, t51, t52, t53, t54, t58⟩ : weirref06_reader) 0 4 (⟨#[47, 92]⟩ : ByteArray) >>= (fun t68 => (if t68 = true then (weirref06_reader__take.f (⟨t46, t51, t52, t53, t54, t58⟩ : weirref06_reader) >>= (fun (t85, t86, t87) => (rec_weirref06_reader__not (⟨t46, t86, t87, t53, t54, t58⟩ : weirref06_reader) >>= (fun (t98, t99, t100, t101, t102, t103, t104) => (weirref06_reader__node.f (⟨t99, t100, t101, t102, t103, t104⟩ : weirref06_reader) (⟨4, t45, t98, (⟨0, (⟨#[]⟩ : ByteArray)⟩ : api_Ref), 0⟩ : api_Node) >>= (fun (t117, t118, t119) => (weirref06_reader__and_2.l0 rec_weirref06_reader__not t117 t99 t100 t101 t102 t118 t119))))))) else some ((t45, t46, t51, t52, t53, t54, t58)))))
 partial_fixpoint
def weirref06_reader__and_2.f (rec_weirref06_reader__not : weirref06_reader → Option (Int × (List api_Token) × Int × api_Token × Int × (List api_Node) × weirref05_Fault)) (a0v : weirref06_reader) : Option (Int × (List api_Token) × Int × api_Token × Int × (List api_Node) × weirref05_Fault) :=
  (rec_weirref06_reader__not (⟨a0v.L, a0v.At, a0v.Last, a0v.Deep, a0v.C, a0v.F⟩ : weirref06_reader) >>= (fun (t1, t2, t3, t4, t5, t6, t7) => (weirref06_reader__and_2.l0 rec_weirref06_reader__not t1 t2 t3 t4 t5 t6 t7 >>= (fun (t24, t25, t30, t31, t32, t33, t37) => some ((t24, t25, t30, t31, t32, t33, t37))))))
set_option maxHeartbeats 16000000 in
theorem weirref06_reader__and_2.ok (rec_weirref06_reader__not : weirref06_reader → Option (Int × (List api_Token) × Int × api_Token × Int × (List api_Node) × weirref05_Fault)) (hrec_weirref06_reader__not : weirref06_reader__not.Spec rec_weirref06_reader__not) (a0v : weirref06_reader) (ba0 : Nat) (Aa0v_0 : Option Addr) (ca0v_0 : Nat) (Aa0v_4 : Option Addr) (ca0v_4 : Nat) {w0 : World} {Z : Zm} {fs : List XObj} {w : World} (hS0 : St w0 Z (xblk ba0 48 ([.slice Aa0v_0 a0v.L.length ca0v_0] ++ [.int .i64 a0v.At] ++ (enc_api_Token a0v.Last) ++ [.int .i64 a0v.Deep] ++ [.slice Aa0v_4 a0v.C.length ca0v_4] ++ (enc_weirref05_Fault a0v.F)) :: xrow Aa0v_4 ca0v_4 53 6 (a0v.C.flatMap enc_api_Node) :: fs) w) (ha0v_0 : SlZ (flat enc_api_Token) 7 Z Aa0v_0 ca0v_0 a0v.L) {q0 : Int} {q1 : List api_Token} {q2 : Int} {q3 : api_Token} {q4 : Int} {q5 : List api_Node} {q6 : weirref05_Fault} (hp0 : weirref06_reader__and_2.f rec_weirref06_reader__not a0v = some (q0, q1, q2, q3, q4, q5, q6)) :
    Calls Tryz.prog 16 #[.pointer (some ⟨ba0, 0, none⟩)] w (fun e w' => ∃ (QA0 : Option Addr) (Qc0 : Nat) (QA2 : Option Addr) (Qc2 : Nat), e = .returned (.int .i64 q0) ∧ St w0 Z (xrow QA2 Qc2 53 6 (q5.flatMap enc_api_Node) :: xblk ba0 48 ([.slice QA0 q1.length Qc0] ++ [.int .i64 q2] ++ (enc_api_Token q3) ++ [.int .i64 q4] ++ [.slice QA2 q5.length Qc2] ++ (enc_weirref05_Fault q6)) :: fs) w' ∧ SlZ (flat enc_api_Token) 7 Z QA0 Qc0 q1) := by
  refine calls_abs ?_; intro R hR
  unfold weirref06_reader__and_2.f at hp0
  refine calls_of_runs (fn := Tryz.f16) (c := cd16 []) Tryz.func16 (by kernel_rfl) (al := [.pointer (some ⟨ba0, 0, none⟩)]) rfl (n := 18) rfl ?_
  refine sx_run 7 (todo' := [.inRegion (opsOf (cd16 [1, 0])) [1, 2], .code (cd16 [1, 1])]) (us := [(2, .int .i64 0), (5, .pointer (some ⟨ba0, 0, none⟩))]) (by kernel_rfl) ?_
  obtain ⟨⟨t1, t2, t3, t4, t5, t6, t7⟩, hr12, hp13⟩ := bind_some' hp0
  try dsimp only at hp13
  have hS16 := hS0.pick1
  have hS17 := hS16.pick1
  refine r_call1 (c := (cd16 [1, 0])) (i := 1) (d := (some 6)) (g := 28) (args := #[.pointer (some ⟨ba0, 0, none⟩)]) (by kernel_rfl) (by kernel_rfl) (by kernel_rfl) (by kernel_rfl) (hrec_weirref06_reader__not (⟨a0v.L, a0v.At, a0v.Last, a0v.Deep, a0v.C, a0v.F⟩ : weirref06_reader) ba0 Aa0v_0 ca0v_0 Aa0v_4 ca0v_4 hS17 ha0v_0 hr12) ?_
  rintro _ w18 ⟨Q8, Q9, Q10, Q11, rfl, hS19, hs20⟩
  refine ⟨.int .i64 t1, rfl, ?_⟩
  refine sx_run 5 (todo' := [.code (cd16 [1, 1, 0, 0, 0]), .inLoop (cd16 [1, 1, 0, 0, 0]), .inBlock 0, .code (cd16 [1, 1, 1])]) (us := [(3, .int .i64 t1)]) (by kernel_rfl) ?_
  obtain ⟨v21, hv22, hp23⟩ := bind_some' hp13
  have J40 : ∀ (t24 : Int) (t25 : List api_Token) (t30 : Int) (t31 : api_Token) (t32 : Int) (t33 : List api_Node) (t37 : weirref05_Fault) (he42 : (t24, t25, t30, t31, t32, t33, t37) = v21) (l41 : List Value) (A26 : Option Addr) (c27 : Nat) (A34 : Option Addr) (c35 : Nat) (w38 : World) (hS39 : St w0 Z (xblk ba0 48 ([.slice A26 t25.length c27] ++ [.int .i64 t30] ++ (enc_api_Token t31) ++ [.int .i64 t32] ++ [.slice A34 t33.length c35] ++ (enc_weirref05_Fault t37)) :: xrow A34 c35 53 6 (t33.flatMap enc_api_Node) :: fs) w38) (hs29 : SlZ (flat enc_api_Token) 7 Z A26 c27 t25), Runs Tryz.prog (fx 16) [.code (cd16 [1, 1, 1])] (fill [none, none, none, some (.int .i64 t24), none, none, none, none, none, none, none, none, none, none, none, none, none, none, none] l41) w38 R := by
   intro t24 t25 t30 t31 t32 t33 t37 he42 l41 A26 c27 A34 c35 w38 hS39 hs29
   subst he42
   try dsimp only at hp23
   refine sx_run 5 (todo' := [.code (cd16 [1, 1, 1, 1])]) (us := [(18, .int .i64 t24), (2, .int .i64 t24)]) (by kernel_rfl) ?_
   have hS43 := hS39.pick1
   refine runs_ret (fn := Tryz.f16) (v := .int .i64 t24) Tryz.func16 (by kernel_rfl) ?_
   have hr44 := (Option.some.inj hp23)
   cases hr44
   exact hR _ _ ⟨A26, c27, A34, c35, rfl, hS43, hs29⟩
  have L67 : ∀ (t45 : Int) (t46 : List api_Token) (t51 : Int) (t52 : api_Token) (t53 : Int) (t54 : List api_Node) (t58 : weirref05_Fault) (e62 : (Int × (List api_Token) × Int × api_Token × Int × (List api_Node) × weirref05_Fault)), weirref06_reader__and_2.l0 rec_weirref06_reader__not t45 t46 t51 t52 t53 t54 t58 = some e62 → e62 = v21 → ∀ (l61 : List Value) (A47 : Option Addr) (c48 : Nat) (A55 : Option Addr) (c56 : Nat) (w59 : World) (hS60 : St w0 Z (xblk ba0 48 ([.slice A47 t46.length c48] ++ [.int .i64 t51] ++ (enc_api_Token t52) ++ [.int .i64 t53] ++ [.slice A55 t54.length c56] ++ (enc_weirref05_Fault t58)) :: xrow A55 c56 53 6 (t54.flatMap enc_api_Node) :: fs) w59) (hs50 : SlZ (flat enc_api_Token) 7 Z A47 c48 t46), Runs Tryz.prog (fx 16) [.code (cd16 [1, 1, 0, 0, 0]), .inLoop (cd16 [1, 1, 0, 0, 0]), .inBlock 0, .code (cd16 [1, 1, 1])] (fill [some (.pointer (some ⟨ba0, 0, none⟩)), none, none, some (.int .i64 t45), none, none, none, none, none, none, none, none, none, none, none, none, none, none, none] l61) w59 R := by
   refine weirref06_reader__and_2.l0.partial_correctness rec_weirref06_reader__not (fun t45 t46 t51 t52 t53 t54 t58 e62 => e62 = v21 → ∀ (l61 : List Value) (A47 : Option Addr) (c48 : Nat) (A55 : Option Addr) (c56 : Nat) (w59 : World) (hS60 : St w0 Z (xblk ba0 48 ([.slice A47 t46.length c48] ++ [.int .i64 t51] ++ (enc_api_Token t52) ++ [.int .i64 t53] ++ [.slice A55 t54.length c56] ++ (enc_weirref05_Fault t58)) :: xrow A55 c56 53 6 (t54.flatMap enc_api_Node) :: fs) w59) (hs50 : SlZ (flat enc_api_Token) 7 Z A47 c48 t46), Runs Tryz.prog (fx 16) [.code (cd16 [1, 1, 0, 0, 0]), .inLoop (cd16 [1, 1, 0, 0, 0]), .inBlock 0, .code (cd16 [1, 1, 1])] (fill [some (.pointer (some ⟨ba0, 0, none⟩)), none, none, some (.int .i64 t45), none, none, none, none, none, none, none, none, none, none, none, none, none, none, none] l61) w59 R) ?_
   intro rec66 ih65 t45 t46 t51 t52 t53 t54 t58 e62 hb64 he63 l61 A47 c48 A55 c56 w59 hS60 hs50
   refine sx_run 4 (todo' := [.inRegion (opsOf (cd16 [1, 1, 0, 0, 0, 0, 0])) [1], .code (cd16 [1, 1, 0, 0, 0, 0, 1]), .code (cd16 [1, 1, 0, 0, 0, 1]), .inLoop (cd16 [1, 1, 0, 0, 0]), .inBlock 0, .code (cd16 [1, 1, 1])]) (us := [(7, .pointer (some ⟨ba0, 0, none⟩))]) (by kernel_rfl) ?_
   obtain ⟨t68, hr69, hp70⟩ := bind_some' hb64
   have hS73 := hS60.pick1
   obtain ⟨Z74, hz75, hS76, hs77, hb78⟩ := hS73.lendrow len_api_Node (by omega)
   refine r_call1 (c := (cd16 [1, 1, 0, 0, 0, 0, 0])) (i := 1) (d := (some 8)) (g := 17) (args := #[.pointer (some ⟨ba0, 0, none⟩), .int .i64 0, .int .i64 4, .string (⟨#[47, 92]⟩ : ByteArray)]) (by kernel_rfl) (by kernel_rfl) (by kernel_rfl) (by kernel_rfl) (weirref06_reader__is.ok (⟨t46, t51, t52, t53, t54, t58⟩ : weirref06_reader) 0 4 (⟨#[47, 92]⟩ : ByteArray) ba0 A47 c48 A55 c56 hS76 (hs50.up hz75) hs77 hr69) ?_
   rintro _ w79 ⟨rfl, hS80⟩
   refine ⟨.bool t68, rfl, ?_⟩
   have hS81 := hb78 _ _ hS80
   refine sx_run 1 (todo' := [.code (cd16 [1, 1, 0, 0, 0, 0, 1]), .code (cd16 [1, 1, 0, 0, 0, 1]), .inLoop (cd16 [1, 1, 0, 0, 0]), .inBlock 0, .code (cd16 [1, 1, 1])]) (us := []) (by kernel_rfl) ?_
   cases t68
   ·skip
    have hp82 := ite_f hp70 rfl
    refine sx_run 2 (todo' := [.code (cd16 [1, 1, 1])]) (us := []) (by kernel_rfl) ?_
    have hS83 := hS81.pick1
    refine Runs.fill (m := [none, none, none, some (.int .i64 t45), none, none, none, none, none, none, none, none, none, none, none, none, none, none, none]) (by kernel_rfl) ?_
    exact J40 t45 t46 t51 t52 t53 t54 t58 ((Option.some.inj hp82).trans he63) _ A47 c48 A55 c56 _ hS83 hs50
   ·skip
    have hp84 := ite_t hp70 rfl
    refine sx_run 6 (todo' := [.inRegion (opsOf (cd16 [1, 1, 0, 0, 0, 1, 0, 0])) [1], .code (cd16 [1, 1, 0, 0, 0, 1, 0, 1]), .inBlock 1, .inLoop (cd16 [1, 1, 0, 0, 0]), .inBlock 0, .code (cd16 [1, 1, 1])]) (us := [(9, .pointer (some ⟨ba0, 0, none⟩))]) (by kernel_rfl) ?_
    obtain ⟨⟨t85, t86, t87⟩, hr88, hp89⟩ := bind_some' hp84
    try dsimp only at hp89
    obtain ⟨Z90, hz91, hS92, hs93, hb94⟩ := hS81.lendrow len_api_Node (by omega)
    refine r_call1 (c := (cd16 [1, 1, 0, 0, 0, 1, 0, 0])) (i := 1) (d := (some 10)) (g := 18) (args := #[.pointer (some ⟨ba0, 0, none⟩)]) (by kernel_rfl) (by kernel_rfl) (by kernel_rfl) (by kernel_rfl) (weirref06_reader__take.ok (⟨t46, t51, t52, t53, t54, t58⟩ : weirref06_reader) ba0 A47 c48 A55 c56 hS92 (hs50.up hz91) hs93 hr88) ?_
    rintro _ w95 ⟨rfl, hS96⟩
    refine ⟨.agg (enc_api_Token t85).toArray, rfl, ?_⟩
    have hS97 := hb94 _ _ hS96
    refine sx_run 4 (todo' := [.inRegion (opsOf (cd16 [1, 1, 0, 0, 0, 1, 0, 1, 0])) [1, 2], .code (cd16 [1, 1, 0, 0, 0, 1, 0, 1, 1]), .inBlock 1, .inLoop (cd16 [1, 1, 0, 0, 0]), .inBlock 0, .code (cd16 [1, 1, 1])]) (us := [(11, .pointer (some ⟨ba0, 0, none⟩))]) (by kernel_rfl) ?_
    obtain ⟨⟨t98, t99, t100, t101, t102, t103, t104⟩, hr109, hp110⟩ := bind_some' hp89
    try dsimp only at hp110
    have hS113 := hS97.pick1
    refine r_call1 (c := (cd16 [1, 1, 0, 0, 0, 1, 0, 1, 0])) (i := 1) (d := (some 12)) (g := 28) (args := #[.pointer (some ⟨ba0, 0, none⟩)]) (by kernel_rfl) (by kernel_rfl) (by kernel_rfl) (by kernel_rfl) (hrec_weirref06_reader__not (⟨t46, t86, t87, t53, t54, t58⟩ : weirref06_reader) ba0 A47 c48 A55 c56 hS113 hs50 hr109) ?_
    rintro _ w114 ⟨Q105, Q106, Q107, Q108, rfl, hS115, hs116⟩
    refine ⟨.int .i64 t98, rfl, ?_⟩
    refine sx_run 7 (todo' := [.inRegion (opsOf (cd16 [1, 1, 0, 0, 0, 1, 0, 1, 1])) [4, 5], .inBlock 1, .inLoop (cd16 [1, 1, 0, 0, 0]), .inBlock 0, .code (cd16 [1, 1, 1])]) (us := [(4, .int .i64 t98), (13, .pointer (some ⟨ba0, 0, none⟩)), (14, .int .i64 t45), (15, .int .i64 t98), (16, .agg (enc_api_Node (⟨4, t45, t98, (⟨0, (⟨#[]⟩ : ByteArray)⟩ : api_Ref), 0⟩ : api_Node)).toArray)]) (by kernel_rfl) ?_
    obtain ⟨⟨t117, t118, t119⟩, hr122, hp123⟩ := bind_some' hp110
    try dsimp only at hp123
    have hS125 := hS115.pick1
    refine r_call1 (c := (cd16 [1, 1, 0, 0, 0, 1, 0, 1, 1])) (i := 4) (d := (some 17)) (g := 19) (args := #[.pointer (some ⟨ba0, 0, none⟩), .agg (enc_api_Node (⟨4, t45, t98, (⟨0, (⟨#[]⟩ : ByteArray)⟩ : api_Ref), 0⟩ : api_Node)).toArray]) (by kernel_rfl) (by kernel_rfl) (by kernel_rfl) (by kernel_rfl) (weirref06_reader__node.ok (⟨t99, t100, t101, t102, t103, t104⟩ : weirref06_reader) (⟨4, t45, t98, (⟨0, (⟨#[]⟩ : ByteArray)⟩ : api_Ref), 0⟩ : api_Node) ba0 Q105 Q106 Q107 Q108 hS125 hs116 hr122) ?_
    rintro _ w126 ⟨Q120, Q121, rfl, hS127⟩
    refine ⟨.int .i64 t117, rfl, ?_⟩
    refine sx_run 3 (todo' := [.inLoop (cd16 [1, 1, 0, 0, 0]), .inBlock 0, .code (cd16 [1, 1, 1])]) (us := [(3, .int .i64 t117)]) (by kernel_rfl) ?_
    have hS128 := hS127.pick1
    refine sx_run 1 (todo' := [.code (cd16 [1, 1, 0, 0, 0]), .inLoop (cd16 [1, 1, 0, 0, 0]), .inBlock 0, .code (cd16 [1, 1, 1])]) (us := []) (by kernel_rfl) ?_
    refine Runs.fill (m := [some (.pointer (some ⟨ba0, 0, none⟩)), none, none, some (.int .i64 t117), none, none, none, none, none, none, none, none, none, none, none, none, none, none, none]) (by kernel_rfl) ?_
    exact ih65 t117 t99 t100 t101 t102 t118 t119 _ hp123 he63 _ Q105 Q106 Q120 Q121 _ hS128 hs116
  have hS129 := hS19.pick1
  refine Runs.fill (m := [some (.pointer (some ⟨ba0, 0, none⟩)), none, none, some (.int .i64 t1), none, none, none, none, none, none, none, none, none, none, none, none, none, none, none]) (by kernel_rfl) ?_
  exact L67 t1 t2 t3 t4 t5 t6 t7 _ hv22 rfl _ Q8 Q9 Q10 Q11 _ hS129 hs20

noncomputable def cd11 (p : List Nat) : Code := sub (bodyOf Tryz.f11) p
def weirref06_reader__or_2.l0 (rec_weirref06_reader__not : weirref06_reader → Option (Int × (List api_Token) × Int × api_Token × Int × (List api_Node) × weirref05_Fault)) (t45 : Int) (t46 : List api_Token) (t51 : Int) (t52 : api_Token) (t53 : Int) (t54 : List api_Node) (t58 : weirref05_Fault) : Option (Int × (List api_Token) × Int × api_Token × Int × (List api_Node) × weirref05_Fault) :=
  (weirref06_reader__is.f (⟨t46, t51, t52, t53, t54, t58⟩ : weirref06_reader) 0 4 (⟨#[92, 47]⟩ : ByteArray) >>= (fun t68 => (if t68 = true then (weirref06_reader__take.f (⟨t46, t51, t52, t53, t54, t58⟩ : weirref06_reader) >>= (fun (t85, t86, t87) => (weirref06_reader__and_2.f rec_weirref06_reader__not (⟨t46, t86, t87, t53, t54, t58⟩ : weirref06_reader) >>= (fun (t98, t99, t100, t101, t102, t103, t104) => (weirref06_reader__node.f (⟨t99, t100, t101, t102, t103, t104⟩ : weirref06_reader) (⟨5, t45, t98, (⟨0, (⟨#[]⟩ : ByteArray)⟩ : api_Ref), 0⟩ : api_Node) >>= (fun (t117, t118, t119) => (weirref06_reader__or_2.l0 rec_weirref06_reader__not t117 t99 t100 t101 t102 t118 t119))))))) else some ((t45, t46, t51, t52, t53, t54, t58)))))
 partial_fixpoint
def weirref06_reader__or_2.f (rec_weirref06_reader__not : weirref06_reader → Option (Int × (List api_Token) × Int × api_Token × Int × (List api_Node) × weirref05_Fault)) (a0v : weirref06_reader) : Option (Int × (List api_Token) × Int × api_Token × Int × (List api_Node) × weirref05_Fault) :=
  (weirref06_reader__and_2.f rec_weirref06_reader__not (⟨a0v.L, a0v.At, a0v.Last, a0v.Deep, a0v.C, a0v.F⟩ : weirref06_reader) >>= (fun (t1, t2, t3, t4, t5, t6, t7) => (weirref06_reader__or_2.l0 rec_weirref06_reader__not t1 t2 t3 t4 t5 t6 t7 >>= (fun (t24, t25, t30, t31, t32, t33, t37) => some ((t24, t25, t30, t31, t32, t33, t37))))))
set_option maxHeartbeats 16000000 in
theorem weirref06_reader__or_2.ok (rec_weirref06_reader__not : weirref06_reader → Option (Int × (List api_Token) × Int × api_Token × Int × (List api_Node) × weirref05_Fault)) (hrec_weirref06_reader__not : weirref06_reader__not.Spec rec_weirref06_reader__not) (a0v : weirref06_reader) (ba0 : Nat) (Aa0v_0 : Option Addr) (ca0v_0 : Nat) (Aa0v_4 : Option Addr) (ca0v_4 : Nat) {w0 : World} {Z : Zm} {fs : List XObj} {w : World} (hS0 : St w0 Z (xblk ba0 48 ([.slice Aa0v_0 a0v.L.length ca0v_0] ++ [.int .i64 a0v.At] ++ (enc_api_Token a0v.Last) ++ [.int .i64 a0v.Deep] ++ [.slice Aa0v_4 a0v.C.length ca0v_4] ++ (enc_weirref05_Fault a0v.F)) :: xrow Aa0v_4 ca0v_4 53 6 (a0v.C.flatMap enc_api_Node) :: fs) w) (ha0v_0 : SlZ (flat enc_api_Token) 7 Z Aa0v_0 ca0v_0 a0v.L) {q0 : Int} {q1 : List api_Token} {q2 : Int} {q3 : api_Token} {q4 : Int} {q5 : List api_Node} {q6 : weirref05_Fault} (hp0 : weirref06_reader__or_2.f rec_weirref06_reader__not a0v = some (q0, q1, q2, q3, q4, q5, q6)) :
    Calls Tryz.prog 11 #[.pointer (some ⟨ba0, 0, none⟩)] w (fun e w' => ∃ (QA0 : Option Addr) (Qc0 : Nat) (QA2 : Option Addr) (Qc2 : Nat), e = .returned (.int .i64 q0) ∧ St w0 Z (xrow QA2 Qc2 53 6 (q5.flatMap enc_api_Node) :: xblk ba0 48 ([.slice QA0 q1.length Qc0] ++ [.int .i64 q2] ++ (enc_api_Token q3) ++ [.int .i64 q4] ++ [.slice QA2 q5.length Qc2] ++ (enc_weirref05_Fault q6)) :: fs) w' ∧ SlZ (flat enc_api_Token) 7 Z QA0 Qc0 q1) := by
  refine calls_abs ?_; intro R hR
  unfold weirref06_reader__or_2.f at hp0
  refine calls_of_runs (fn := Tryz.f11) (c := cd11 []) Tryz.func11 (by kernel_rfl) (al := [.pointer (some ⟨ba0, 0, none⟩)]) rfl (n := 18) rfl ?_
  refine sx_run 7 (todo' := [.inRegion (opsOf (cd11 [1, 0])) [1, 2], .code (cd11 [1, 1])]) (us := [(2, .int .i64 0), (5, .pointer (some ⟨ba0, 0, none⟩))]) (by kernel_rfl) ?_
  obtain ⟨⟨t1, t2, t3, t4, t5, t6, t7⟩, hr12, hp13⟩ := bind_some' hp0
  try dsimp only at hp13
  have hS16 := hS0.pick1
  have hS17 := hS16.pick1
  refine r_call1 (c := (cd11 [1, 0])) (i := 1) (d := (some 6)) (g := 16) (args := #[.pointer (some ⟨ba0, 0, none⟩)]) (by kernel_rfl) (by kernel_rfl) (by kernel_rfl) (by kernel_rfl) (weirref06_reader__and_2.ok rec_weirref06_reader__not hrec_weirref06_reader__not (⟨a0v.L, a0v.At, a0v.Last, a0v.Deep, a0v.C, a0v.F⟩ : weirref06_reader) ba0 Aa0v_0 ca0v_0 Aa0v_4 ca0v_4 hS17 ha0v_0 hr12) ?_
  rintro _ w18 ⟨Q8, Q9, Q10, Q11, rfl, hS19, hs20⟩
  refine ⟨.int .i64 t1, rfl, ?_⟩
  refine sx_run 5 (todo' := [.code (cd11 [1, 1, 0, 0, 0]), .inLoop (cd11 [1, 1, 0, 0, 0]), .inBlock 0, .code (cd11 [1, 1, 1])]) (us := [(3, .int .i64 t1)]) (by kernel_rfl) ?_
  obtain ⟨v21, hv22, hp23⟩ := bind_some' hp13
  have J40 : ∀ (t24 : Int) (t25 : List api_Token) (t30 : Int) (t31 : api_Token) (t32 : Int) (t33 : List api_Node) (t37 : weirref05_Fault) (he42 : (t24, t25, t30, t31, t32, t33, t37) = v21) (l41 : List Value) (A26 : Option Addr) (c27 : Nat) (A34 : Option Addr) (c35 : Nat) (w38 : World) (hS39 : St w0 Z (xblk ba0 48 ([.slice A26 t25.length c27] ++ [.int .i64 t30] ++ (enc_api_Token t31) ++ [.int .i64 t32] ++ [.slice A34 t33.length c35] ++ (enc_weirref05_Fault t37)) :: xrow A34 c35 53 6 (t33.flatMap enc_api_Node) :: fs) w38) (hs29 : SlZ (flat enc_api_Token) 7 Z A26 c27 t25), Runs Tryz.prog (fx 11) [.code (cd11 [1, 1, 1])] (fill [none, none, none, some (.int .i64 t24), none, none, none, none, none, none, none, none, none, none, none, none, none, none, none] l41) w38 R := by
   intro t24 t25 t30 t31 t32 t33 t37 he42 l41 A26 c27 A34 c35 w38 hS39 hs29
   subst he42
   try dsimp only at hp23
   refine sx_run 5 (todo' := [.code (cd11 [1, 1, 1, 1])]) (us := [(18, .int .i64 t24), (2, .int .i64 t24)]) (by kernel_rfl) ?_
   have hS43 := hS39.pick1
   refine runs_ret (fn := Tryz.f11) (v := .int .i64 t24) Tryz.func11 (by kernel_rfl) ?_
   have hr44 := (Option.some.inj hp23)
   cases hr44
   exact hR _ _ ⟨A26, c27, A34, c35, rfl, hS43, hs29⟩
  have L67 : ∀ (t45 : Int) (t46 : List api_Token) (t51 : Int) (t52 : api_Token) (t53 : Int) (t54 : List api_Node) (t58 : weirref05_Fault) (e62 : (Int × (List api_Token) × Int × api_Token × Int × (List api_Node) × weirref05_Fault)), weirref06_reader__or_2.l0 rec_weirref06_reader__not t45 t46 t51 t52 t53 t54 t58 = some e62 → e62 = v21 → ∀ (l61 : List Value) (A47 : Option Addr) (c48 : Nat) (A55 : Option Addr) (c56 : Nat) (w59 : World) (hS60 : St w0 Z (xblk ba0 48 ([.slice A47 t46.length c48] ++ [.int .i64 t51] ++ (enc_api_Token t52) ++ [.int .i64 t53] ++ [.slice A55 t54.length c56] ++ (enc_weirref05_Fault t58)) :: xrow A55 c56 53 6 (t54.flatMap enc_api_Node) :: fs) w59) (hs50 : SlZ (flat enc_api_Token) 7 Z A47 c48 t46), Runs Tryz.prog (fx 11) [.code (cd11 [1, 1, 0, 0, 0]), .inLoop (cd11 [1, 1, 0, 0, 0]), .inBlock 0, .code (cd11 [1, 1, 1])] (fill [some (.pointer (some ⟨ba0, 0, none⟩)), none, none, some (.int .i64 t45), none, none, none, none, none, none, none, none, none, none, none, none, none, none, none] l61) w59 R := by
   refine weirref06_reader__or_2.l0.partial_correctness rec_weirref06_reader__not (fun t45 t46 t51 t52 t53 t54 t58 e62 => e62 = v21 → ∀ (l61 : List Value) (A47 : Option Addr) (c48 : Nat) (A55 : Option Addr) (c56 : Nat) (w59 : World) (hS60 : St w0 Z (xblk ba0 48 ([.slice A47 t46.length c48] ++ [.int .i64 t51] ++ (enc_api_Token t52) ++ [.int .i64 t53] ++ [.slice A55 t54.length c56] ++ (enc_weirref05_Fault t58)) :: xrow A55 c56 53 6 (t54.flatMap enc_api_Node) :: fs) w59) (hs50 : SlZ (flat enc_api_Token) 7 Z A47 c48 t46), Runs Tryz.prog (fx 11) [.code (cd11 [1, 1, 0, 0, 0]), .inLoop (cd11 [1, 1, 0, 0, 0]), .inBlock 0, .code (cd11 [1, 1, 1])] (fill [some (.pointer (some ⟨ba0, 0, none⟩)), none, none, some (.int .i64 t45), none, none, none, none, none, none, none, none, none, none, none, none, none, none, none] l61) w59 R) ?_
   intro rec66 ih65 t45 t46 t51 t52 t53 t54 t58 e62 hb64 he63 l61 A47 c48 A55 c56 w59 hS60 hs50
   refine sx_run 4 (todo' := [.inRegion (opsOf (cd11 [1, 1, 0, 0, 0, 0, 0])) [1], .code (cd11 [1, 1, 0, 0, 0, 0, 1]), .code (cd11 [1, 1, 0, 0, 0, 1]), .inLoop (cd11 [1, 1, 0, 0, 0]), .inBlock 0, .code (cd11 [1, 1, 1])]) (us := [(7, .pointer (some ⟨ba0, 0, none⟩))]) (by kernel_rfl) ?_
   obtain ⟨t68, hr69, hp70⟩ := bind_some' hb64
   have hS73 := hS60.pick1
   obtain ⟨Z74, hz75, hS76, hs77, hb78⟩ := hS73.lendrow len_api_Node (by omega)
   refine r_call1 (c := (cd11 [1, 1, 0, 0, 0, 0, 0])) (i := 1) (d := (some 8)) (g := 17) (args := #[.pointer (some ⟨ba0, 0, none⟩), .int .i64 0, .int .i64 4, .string (⟨#[92, 47]⟩ : ByteArray)]) (by kernel_rfl) (by kernel_rfl) (by kernel_rfl) (by kernel_rfl) (weirref06_reader__is.ok (⟨t46, t51, t52, t53, t54, t58⟩ : weirref06_reader) 0 4 (⟨#[92, 47]⟩ : ByteArray) ba0 A47 c48 A55 c56 hS76 (hs50.up hz75) hs77 hr69) ?_
   rintro _ w79 ⟨rfl, hS80⟩
   refine ⟨.bool t68, rfl, ?_⟩
   have hS81 := hb78 _ _ hS80
   refine sx_run 1 (todo' := [.code (cd11 [1, 1, 0, 0, 0, 0, 1]), .code (cd11 [1, 1, 0, 0, 0, 1]), .inLoop (cd11 [1, 1, 0, 0, 0]), .inBlock 0, .code (cd11 [1, 1, 1])]) (us := []) (by kernel_rfl) ?_
   cases t68
   ·skip
    have hp82 := ite_f hp70 rfl
    refine sx_run 2 (todo' := [.code (cd11 [1, 1, 1])]) (us := []) (by kernel_rfl) ?_
    have hS83 := hS81.pick1
    refine Runs.fill (m := [none, none, none, some (.int .i64 t45), none, none, none, none, none, none, none, none, none, none, none, none, none, none, none]) (by kernel_rfl) ?_
    exact J40 t45 t46 t51 t52 t53 t54 t58 ((Option.some.inj hp82).trans he63) _ A47 c48 A55 c56 _ hS83 hs50
   ·skip
    have hp84 := ite_t hp70 rfl
    refine sx_run 6 (todo' := [.inRegion (opsOf (cd11 [1, 1, 0, 0, 0, 1, 0, 0])) [1], .code (cd11 [1, 1, 0, 0, 0, 1, 0, 1]), .inBlock 1, .inLoop (cd11 [1, 1, 0, 0, 0]), .inBlock 0, .code (cd11 [1, 1, 1])]) (us := [(9, .pointer (some ⟨ba0, 0, none⟩))]) (by kernel_rfl) ?_
    obtain ⟨⟨t85, t86, t87⟩, hr88, hp89⟩ := bind_some' hp84
    try dsimp only at hp89
    obtain ⟨Z90, hz91, hS92, hs93, hb94⟩ := hS81.lendrow len_api_Node (by omega)
    refine r_call1 (c := (cd11 [1, 1, 0, 0, 0, 1, 0, 0])) (i := 1) (d := (some 10)) (g := 18) (args := #[.pointer (some ⟨ba0, 0, none⟩)]) (by kernel_rfl) (by kernel_rfl) (by kernel_rfl) (by kernel_rfl) (weirref06_reader__take.ok (⟨t46, t51, t52, t53, t54, t58⟩ : weirref06_reader) ba0 A47 c48 A55 c56 hS92 (hs50.up hz91) hs93 hr88) ?_
    rintro _ w95 ⟨rfl, hS96⟩
    refine ⟨.agg (enc_api_Token t85).toArray, rfl, ?_⟩
    have hS97 := hb94 _ _ hS96
    refine sx_run 4 (todo' := [.inRegion (opsOf (cd11 [1, 1, 0, 0, 0, 1, 0, 1, 0])) [1, 2], .code (cd11 [1, 1, 0, 0, 0, 1, 0, 1, 1]), .inBlock 1, .inLoop (cd11 [1, 1, 0, 0, 0]), .inBlock 0, .code (cd11 [1, 1, 1])]) (us := [(11, .pointer (some ⟨ba0, 0, none⟩))]) (by kernel_rfl) ?_
    obtain ⟨⟨t98, t99, t100, t101, t102, t103, t104⟩, hr109, hp110⟩ := bind_some' hp89
    try dsimp only at hp110
    have hS113 := hS97.pick1
    refine r_call1 (c := (cd11 [1, 1, 0, 0, 0, 1, 0, 1, 0])) (i := 1) (d := (some 12)) (g := 16) (args := #[.pointer (some ⟨ba0, 0, none⟩)]) (by kernel_rfl) (by kernel_rfl) (by kernel_rfl) (by kernel_rfl) (weirref06_reader__and_2.ok rec_weirref06_reader__not hrec_weirref06_reader__not (⟨t46, t86, t87, t53, t54, t58⟩ : weirref06_reader) ba0 A47 c48 A55 c56 hS113 hs50 hr109) ?_
    rintro _ w114 ⟨Q105, Q106, Q107, Q108, rfl, hS115, hs116⟩
    refine ⟨.int .i64 t98, rfl, ?_⟩
    refine sx_run 7 (todo' := [.inRegion (opsOf (cd11 [1, 1, 0, 0, 0, 1, 0, 1, 1])) [4, 5], .inBlock 1, .inLoop (cd11 [1, 1, 0, 0, 0]), .inBlock 0, .code (cd11 [1, 1, 1])]) (us := [(4, .int .i64 t98), (13, .pointer (some ⟨ba0, 0, none⟩)), (14, .int .i64 t45), (15, .int .i64 t98), (16, .agg (enc_api_Node (⟨5, t45, t98, (⟨0, (⟨#[]⟩ : ByteArray)⟩ : api_Ref), 0⟩ : api_Node)).toArray)]) (by kernel_rfl) ?_
    obtain ⟨⟨t117, t118, t119⟩, hr122, hp123⟩ := bind_some' hp110
    try dsimp only at hp123
    have hS125 := hS115.pick1
    refine r_call1 (c := (cd11 [1, 1, 0, 0, 0, 1, 0, 1, 1])) (i := 4) (d := (some 17)) (g := 19) (args := #[.pointer (some ⟨ba0, 0, none⟩), .agg (enc_api_Node (⟨5, t45, t98, (⟨0, (⟨#[]⟩ : ByteArray)⟩ : api_Ref), 0⟩ : api_Node)).toArray]) (by kernel_rfl) (by kernel_rfl) (by kernel_rfl) (by kernel_rfl) (weirref06_reader__node.ok (⟨t99, t100, t101, t102, t103, t104⟩ : weirref06_reader) (⟨5, t45, t98, (⟨0, (⟨#[]⟩ : ByteArray)⟩ : api_Ref), 0⟩ : api_Node) ba0 Q105 Q106 Q107 Q108 hS125 hs116 hr122) ?_
    rintro _ w126 ⟨Q120, Q121, rfl, hS127⟩
    refine ⟨.int .i64 t117, rfl, ?_⟩
    refine sx_run 3 (todo' := [.inLoop (cd11 [1, 1, 0, 0, 0]), .inBlock 0, .code (cd11 [1, 1, 1])]) (us := [(3, .int .i64 t117)]) (by kernel_rfl) ?_
    have hS128 := hS127.pick1
    refine sx_run 1 (todo' := [.code (cd11 [1, 1, 0, 0, 0]), .inLoop (cd11 [1, 1, 0, 0, 0]), .inBlock 0, .code (cd11 [1, 1, 1])]) (us := []) (by kernel_rfl) ?_
    refine Runs.fill (m := [some (.pointer (some ⟨ba0, 0, none⟩)), none, none, some (.int .i64 t117), none, none, none, none, none, none, none, none, none, none, none, none, none, none, none]) (by kernel_rfl) ?_
    exact ih65 t117 t99 t100 t101 t102 t118 t119 _ hp123 he63 _ Q105 Q106 Q120 Q121 _ hS128 hs116
  have hS129 := hS19.pick1
  refine Runs.fill (m := [some (.pointer (some ⟨ba0, 0, none⟩)), none, none, some (.int .i64 t1), none, none, none, none, none, none, none, none, none, none, none, none, none, none, none]) (by kernel_rfl) ?_
  exact L67 t1 t2 t3 t4 t5 t6 t7 _ hv22 rfl _ Q8 Q9 Q10 Q11 _ hS129 hs20

noncomputable def cd28 (p : List Nat) : Code := sub (bodyOf Tryz.f28) p
def weirref06_reader__not.body (rec_weirref06_reader__not : weirref06_reader → Option (Int × (List api_Token) × Int × api_Token × Int × (List api_Node) × weirref05_Fault)) (a0v : weirref06_reader) : Option (Int × (List api_Token) × Int × api_Token × Int × (List api_Node) × weirref05_Fault) :=
  (weirref06_reader__bad.f (⟨a0v.L, a0v.At, a0v.Last, a0v.Deep, a0v.C, a0v.F⟩ : weirref06_reader) >>= (fun t1 => (((if t1 = true then some (.inr ((0, a0v.L, a0v.At, a0v.Last, a0v.Deep, a0v.C, a0v.F))) else (weirref06_reader__is.f (⟨a0v.L, a0v.At, a0v.Last, a0v.Deep, a0v.C, a0v.F⟩ : weirref06_reader) 0 4 (⟨#[126]⟩ : ByteArray) >>= (fun t40 => (if t40 = true then (weirref06_reader__opens.f (⟨a0v.L, a0v.At, a0v.Last, a0v.Deep, a0v.C, a0v.F⟩ : weirref06_reader) >>= (fun (t180, t181, t182, t183) => (rec_weirref06_reader__not (⟨a0v.L, t180, t181, t182, a0v.C, t183⟩ : weirref06_reader) >>= (fun (t194, t195, t196, t197, t198, t199, t200) => (weirref06_reader__node.f (⟨t195, t196, t197, (IntKind.i64.wrap (t198 - 1)), t199, t200⟩ : weirref06_reader) (⟨3, t194, 0, (⟨0, (⟨#[]⟩ : ByteArray)⟩ : api_Ref), 0⟩ : api_Node) >>= (fun (t216, t217, t218) => some (.inr ((t216, t195, t196, t197, (IntKind.i64.wrap (t198 - 1)), t217, t218))))))))) else (weirref06_reader__is.f (⟨a0v.L, a0v.At, a0v.Last, a0v.Deep, a0v.C, a0v.F⟩ : weirref06_reader) 0 4 (⟨#[40]⟩ : ByteArray) >>= (fun t54 => (if t54 = true then (weirref06_reader__opens.f (⟨a0v.L, a0v.At, a0v.Last, a0v.Deep, a0v.C, a0v.F⟩ : weirref06_reader) >>= (fun (t128, t129, t130, t131) => (weirref06_reader__or_2.f rec_weirref06_reader__not (⟨a0v.L, t128, t129, t130, a0v.C, t131⟩ : weirref06_reader) >>= (fun (t142, t143, t144, t145, t146, t147, t148) => (weirref06_reader__sign.f (⟨t143, t144, t145, t146, t147, t148⟩ : weirref06_reader) (⟨#[41]⟩ : ByteArray) >>= (fun (t161, t162, t163) => some (.inr ((t142, t143, t161, t162, (IntKind.i64.wrap (t146 - 1)), t147, t163))))))))) else (weirref06_reader__is.f (⟨a0v.L, a0v.At, a0v.Last, a0v.Deep, a0v.C, a0v.F⟩ : weirref06_reader) 0 1 (⟨#[116, 114, 117, 101]⟩ : ByteArray) >>= (fun t68 => (if t68 = true then (weirref06_reader__is.f (⟨a0v.L, a0v.At, a0v.Last, a0v.Deep, a0v.C, a0v.F⟩ : weirref06_reader) 1 4 (⟨#[61]⟩ : ByteArray) >>= (fun t84 => (if (!t84) = true then (weirref06_reader__take.f (⟨a0v.L, a0v.At, a0v.Last, a0v.Deep, a0v.C, a0v.F⟩ : weirref06_reader) >>= (fun (t100, t101, t102) => (weirref06_reader__node.f (⟨a0v.L, t101, t102, a0v.Deep, a0v.C, a0v.F⟩ : weirref06_reader) (⟨1, 0, 0, (⟨0, (⟨#[]⟩ : ByteArray)⟩ : api_Ref), 0⟩ : api_Node) >>= (fun (t113, t114, t115) => some (.inr ((t113, a0v.L, t101, t102, a0v.Deep, t114, t115))))))) else some (.inl ())))) else some (.inl ()))))))))))) : Option (Sum Unit (Int × (List api_Token) × Int × api_Token × Int × (List api_Node) × weirref05_Fault))) >>= (fun | .inl () => (weirref06_reader__equation.f (⟨a0v.L, a0v.At, a0v.Last, a0v.Deep, a0v.C, a0v.F⟩ : weirref06_reader) >>= (fun (t24, t25, t26, t27, t28) => some ((t24, a0v.L, t25, t26, a0v.Deep, t27, t28)))) | .inr e => some e))))
set_option maxHeartbeats 16000000 in
theorem weirref06_reader__not.bok (rec_weirref06_reader__not : weirref06_reader → Option (Int × (List api_Token) × Int × api_Token × Int × (List api_Node) × weirref05_Fault)) (hrec_weirref06_reader__not : weirref06_reader__not.Spec rec_weirref06_reader__not) : weirref06_reader__not.Spec (weirref06_reader__not.body rec_weirref06_reader__not) := by
  intro a0v ba0 Aa0v_0 ca0v_0 Aa0v_4 ca0v_4 w0 Z fs w hS0 ha0v_0 q0 q1 q2 q3 q4 q5 q6 hp0
  refine calls_abs ?_; intro R hR
  unfold weirref06_reader__not.body at hp0
  refine calls_of_runs (fn := Tryz.f28) (c := cd28 []) Tryz.func28 (by kernel_rfl) (al := [.pointer (some ⟨ba0, 0, none⟩)]) rfl (n := 57) rfl ?_
  refine sx_run 9 (todo' := [.inRegion (opsOf (cd28 [1, 0, 0, 0])) [1, 2], .code (cd28 [1, 0, 0, 1]), .inBlock 0, .code (cd28 [1, 1])]) (us := [(2, .int .i64 0), (6, .pointer (some ⟨ba0, 0, none⟩))]) (by kernel_rfl) ?_
  obtain ⟨t1, hr2, hp3⟩ := bind_some' hp0
  have hS6 := hS0.pick1
  obtain ⟨Z7, hz8, hS9, hs10, hb11⟩ := hS6.lendrow len_api_Node (by omega)
  refine r_call1 (c := (cd28 [1, 0, 0, 0])) (i := 1) (d := (some 7)) (g := 12) (args := #[.pointer (some ⟨ba0, 0, none⟩)]) (by kernel_rfl) (by kernel_rfl) (by kernel_rfl) (by kernel_rfl) (weirref06_reader__bad.ok (⟨a0v.L, a0v.At, a0v.Last, a0v.Deep, a0v.C, a0v.F⟩ : weirref06_reader) ba0 Aa0v_0 ca0v_0 Aa0v_4 ca0v_4 hS9 (ha0v_0.up hz8) hs10 hr2) ?_
  rintro _ w12 ⟨rfl, hS13⟩
  refine ⟨.bool t1, rfl, ?_⟩
  have hS14 := hb11 _ _ hS13
  refine sx_run 2 (todo' := [.code (cd28 [1, 0, 0, 1]), .inBlock 0, .code (cd28 [1, 1])]) (us := [(5, .bool t1)]) (by kernel_rfl) ?_
  obtain ⟨v15, hv16, hp17⟩ := bind_some' hp3
  have hq20 : ∀ x, Sum.inr x = v15 → x = (q0, q1, q2, q3, q4, q5, q6) := by intro x hx; subst hx; simpa using hp17
  have J21 : ∀ (he23 : Sum.inl () = v15) (l22 : List Value) (w18 : World) (hS19 : St w0 Z (xblk ba0 48 ([.slice Aa0v_0 a0v.L.length ca0v_0] ++ [.int .i64 a0v.At] ++ (enc_api_Token a0v.Last) ++ [.int .i64 a0v.Deep] ++ [.slice Aa0v_4 a0v.C.length ca0v_4] ++ (enc_weirref05_Fault a0v.F)) :: xrow Aa0v_4 ca0v_4 53 6 (a0v.C.flatMap enc_api_Node) :: fs) w18), Runs Tryz.prog (fx 28) [.code (cd28 [1, 1])] (fill [some (.pointer (some ⟨ba0, 0, none⟩)), none, none, none, none, none, none, none, none, none, none, none, none, none, none, none, none, none, none, none, none, none, none, none, none, none, none, none, none, none, none, none, none, none, none, none, none, none, none, none, none, none, none, none, none, none, none, none, none, none, none, none, none, none, none, none, none, none] l22) w18 R := by
   intro he23 l22 w18 hS19
   subst he23
   try dsimp only at hp17
   refine sx_run 3 (todo' := [.inRegion (opsOf (cd28 [1, 1, 0])) [1, 2], .code (cd28 [1, 1, 1])]) (us := [(56, .pointer (some ⟨ba0, 0, none⟩))]) (by kernel_rfl) ?_
   obtain ⟨⟨t24, t25, t26, t27, t28⟩, hr31, hp32⟩ := bind_some' hp17
   try dsimp only at hp32
   have hS34 := hS19.pick1
   have hS35 := hS34.pick1
   refine r_call1 (c := (cd28 [1, 1, 0])) (i := 1) (d := (some 57)) (g := 39) (args := #[.pointer (some ⟨ba0, 0, none⟩)]) (by kernel_rfl) (by kernel_rfl) (by kernel_rfl) (by kernel_rfl) (weirref06_reader__equation.ok (⟨a0v.L, a0v.At, a0v.Last, a0v.Deep, a0v.C, a0v.F⟩ : weirref06_reader) ba0 Aa0v_0 ca0v_0 Aa0v_4 ca0v_4 hS35 ha0v_0 hr31) ?_
   rintro _ w36 ⟨Q29, Q30, rfl, hS37⟩
   refine ⟨.int .i64 t24, rfl, ?_⟩
   refine sx_run 2 (todo' := [.code (cd28 [1, 1, 1])]) (us := [(2, .int .i64 t24)]) (by kernel_rfl) ?_
   refine runs_ret (fn := Tryz.f28) (v := .int .i64 t24) Tryz.func28 (by kernel_rfl) ?_
   have hr38 := (Option.some.inj hp32)
   cases hr38
   exact hR _ _ ⟨Aa0v_0, ca0v_0, Q29, Q30, rfl, hS37, ha0v_0⟩
  cases t1
  ·skip
   have hp39 := ite_f hv16 rfl
   refine sx_run 4 (todo' := [.inRegion (opsOf (cd28 [1, 0, 0, 1, 1, 0])) [1, 2], .code (cd28 [1, 0, 0, 1, 1, 1]), .inBlock 0, .code (cd28 [1, 1])]) (us := [(9, .pointer (some ⟨ba0, 0, none⟩))]) (by kernel_rfl) ?_
   obtain ⟨t40, hr41, hp42⟩ := bind_some' hp39
   obtain ⟨Z45, hz46, hS47, hs48, hb49⟩ := hS14.lendrow len_api_Node (by omega)
   refine r_call1 (c := (cd28 [1, 0, 0, 1, 1, 0])) (i := 1) (d := (some 10)) (g := 17) (args := #[.pointer (some ⟨ba0, 0, none⟩), .int .i64 0, .int .i64 4, .string (⟨#[126]⟩ : ByteArray)]) (by kernel_rfl) (by kernel_rfl) (by kernel_rfl) (by kernel_rfl) (weirref06_reader__is.ok (⟨a0v.L, a0v.At, a0v.Last, a0v.Deep, a0v.C, a0v.F⟩ : weirref06_reader) 0 4 (⟨#[126]⟩ : ByteArray) ba0 Aa0v_0 ca0v_0 Aa0v_4 ca0v_4 hS47 (ha0v_0.up hz46) hs48 hr41) ?_
   rintro _ w50 ⟨rfl, hS51⟩
   refine ⟨.bool t40, rfl, ?_⟩
   have hS52 := hb49 _ _ hS51
   refine sx_run 2 (todo' := [.code (cd28 [1, 0, 0, 1, 1, 1]), .inBlock 0, .code (cd28 [1, 1])]) (us := [(8, .bool t40)]) (by kernel_rfl) ?_
   cases t40
   ·skip
    have hp53 := ite_f hp42 rfl
    refine sx_run 4 (todo' := [.inRegion (opsOf (cd28 [1, 0, 0, 1, 1, 1, 1, 0])) [1, 2], .code (cd28 [1, 0, 0, 1, 1, 1, 1, 1]), .inBlock 0, .code (cd28 [1, 1])]) (us := [(27, .pointer (some ⟨ba0, 0, none⟩))]) (by kernel_rfl) ?_
    obtain ⟨t54, hr55, hp56⟩ := bind_some' hp53
    obtain ⟨Z59, hz60, hS61, hs62, hb63⟩ := hS52.lendrow len_api_Node (by omega)
    refine r_call1 (c := (cd28 [1, 0, 0, 1, 1, 1, 1, 0])) (i := 1) (d := (some 28)) (g := 17) (args := #[.pointer (some ⟨ba0, 0, none⟩), .int .i64 0, .int .i64 4, .string (⟨#[40]⟩ : ByteArray)]) (by kernel_rfl) (by kernel_rfl) (by kernel_rfl) (by kernel_rfl) (weirref06_reader__is.ok (⟨a0v.L, a0v.At, a0v.Last, a0v.Deep, a0v.C, a0v.F⟩ : weirref06_reader) 0 4 (⟨#[40]⟩ : ByteArray) ba0 Aa0v_0 ca0v_0 Aa0v_4 ca0v_4 hS61 (ha0v_0.up hz60) hs62 hr55) ?_
    rintro _ w64 ⟨rfl, hS65⟩
    refine ⟨.bool t54, rfl, ?_⟩
    have hS66 := hb63 _ _ hS65
    refine sx_run 2 (todo' := [.code (cd28 [1, 0, 0, 1, 1, 1, 1, 1]), .inBlock 0, .code (cd28 [1, 1])]) (us := [(26, .bool t54)]) (by kernel_rfl) ?_
    cases t54
    ·skip
     have hp67 := ite_f hp56 rfl
     refine sx_run 4 (todo' := [.inRegion (opsOf (cd28 [1, 0, 0, 1, 1, 1, 1, 1, 1, 0])) [1, 2, 3, 4, 5, 6, 7], .code (cd28 [1, 0, 0, 1, 1, 1, 1, 1, 1, 1]), .inBlock 0, .code (cd28 [1, 1])]) (us := [(44, .pointer (some ⟨ba0, 0, none⟩))]) (by kernel_rfl) ?_
     obtain ⟨t68, hr69, hp70⟩ := bind_some' hp67
     obtain ⟨Z73, hz74, hS75, hs76, hb77⟩ := hS66.lendrow len_api_Node (by omega)
     refine r_call1 (c := (cd28 [1, 0, 0, 1, 1, 1, 1, 1, 1, 0])) (i := 1) (d := (some 45)) (g := 17) (args := #[.pointer (some ⟨ba0, 0, none⟩), .int .i64 0, .int .i64 1, .string (⟨#[116, 114, 117, 101]⟩ : ByteArray)]) (by kernel_rfl) (by kernel_rfl) (by kernel_rfl) (by kernel_rfl) (weirref06_reader__is.ok (⟨a0v.L, a0v.At, a0v.Last, a0v.Deep, a0v.C, a0v.F⟩ : weirref06_reader) 0 1 (⟨#[116, 114, 117, 101]⟩ : ByteArray) ba0 Aa0v_0 ca0v_0 Aa0v_4 ca0v_4 hS75 (ha0v_0.up hz74) hs76 hr69) ?_
     rintro _ w78 ⟨rfl, hS79⟩
     refine ⟨.bool t68, rfl, ?_⟩
     have hS80 := hb77 _ _ hS79
     refine sx_run 1 (todo' := [.inRegion (opsOf (cd28 [1, 0, 0, 1, 1, 1, 1, 1, 1, 0])) [3, 4, 5, 6, 7], .code (cd28 [1, 0, 0, 1, 1, 1, 1, 1, 1, 1]), .inBlock 0, .code (cd28 [1, 1])]) (us := [(46, .bool t68)]) (by kernel_rfl) ?_
     cases t68
     ·skip
      have hp81 := ite_f hp70 rfl
      refine sx_run 9 (todo' := [.code (cd28 [1, 1])]) (us := [(47, undef), (48, undef), (49, undef), (50, .bool false), (43, .bool false)]) (by kernel_rfl) ?_
      have hS82 := hS80.pick1
      refine Runs.fill (m := [some (.pointer (some ⟨ba0, 0, none⟩)), none, none, none, none, none, none, none, none, none, none, none, none, none, none, none, none, none, none, none, none, none, none, none, none, none, none, none, none, none, none, none, none, none, none, none, none, none, none, none, none, none, none, none, none, none, none, none, none, none, none, none, none, none, none, none, none, none]) (by kernel_rfl) ?_
      exact J21 (Option.some.inj hp81) _ _ hS82
     ·skip
      have hp83 := ite_t hp70 rfl
      refine sx_run 1 (todo' := [.inRegion (opsOf (cd28 [1, 0, 0, 1, 1, 1, 1, 1, 1, 0])) [4, 5, 6, 7], .code (cd28 [1, 0, 0, 1, 1, 1, 1, 1, 1, 1]), .inBlock 0, .code (cd28 [1, 1])]) (us := [(47, .pointer (some ⟨ba0, 0, none⟩))]) (by kernel_rfl) ?_
      obtain ⟨t84, hr85, hp86⟩ := bind_some' hp83
      obtain ⟨Z89, hz90, hS91, hs92, hb93⟩ := hS80.lendrow len_api_Node (by omega)
      refine r_call1 (c := (cd28 [1, 0, 0, 1, 1, 1, 1, 1, 1, 0])) (i := 4) (d := (some 48)) (g := 17) (args := #[.pointer (some ⟨ba0, 0, none⟩), .int .i64 1, .int .i64 4, .string (⟨#[61]⟩ : ByteArray)]) (by kernel_rfl) (by kernel_rfl) (by kernel_rfl) (by kernel_rfl) (weirref06_reader__is.ok (⟨a0v.L, a0v.At, a0v.Last, a0v.Deep, a0v.C, a0v.F⟩ : weirref06_reader) 1 4 (⟨#[61]⟩ : ByteArray) ba0 Aa0v_0 ca0v_0 Aa0v_4 ca0v_4 hS91 (ha0v_0.up hz90) hs92 hr85) ?_
      rintro _ w94 ⟨rfl, hS95⟩
      refine ⟨.bool t84, rfl, ?_⟩
      have hS96 := hb93 _ _ hS95
      refine sx_split 1 (todo' := [.inRegion (opsOf (cd28 [1, 0, 0, 1, 1, 1, 1, 1, 1, 0])) [6, 7], .code (cd28 [1, 0, 0, 1, 1, 1, 1, 1, 1, 1]), .inBlock 0, .code (cd28 [1, 1])]) (us := []) (d := 49) (t := (!t84)) (by kernel_rfl) (fun h97 => ?_) (fun h98 => ?_)
      ·skip
       have hp99 := ite_t hp86 h97
       refine sx_run 7 (todo' := [.inRegion (opsOf (cd28 [1, 0, 0, 1, 1, 1, 1, 1, 1, 1, 0, 0])) [1], .code (cd28 [1, 0, 0, 1, 1, 1, 1, 1, 1, 1, 0, 1]), .inBlock 0, .code (cd28 [1, 1])]) (us := [(50, .bool true), (43, .bool true), (51, .pointer (some ⟨ba0, 0, none⟩))]) (by kernel_rfl) ?_
       obtain ⟨⟨t100, t101, t102⟩, hr103, hp104⟩ := bind_some' hp99
       try dsimp only at hp104
       obtain ⟨Z105, hz106, hS107, hs108, hb109⟩ := hS96.lendrow len_api_Node (by omega)
       refine r_call1 (c := (cd28 [1, 0, 0, 1, 1, 1, 1, 1, 1, 1, 0, 0])) (i := 1) (d := (some 52)) (g := 18) (args := #[.pointer (some ⟨ba0, 0, none⟩)]) (by kernel_rfl) (by kernel_rfl) (by kernel_rfl) (by kernel_rfl) (weirref06_reader__take.ok (⟨a0v.L, a0v.At, a0v.Last, a0v.Deep, a0v.C, a0v.F⟩ : weirref06_reader) ba0 Aa0v_0 ca0v_0 Aa0v_4 ca0v_4 hS107 (ha0v_0.up hz106) hs108 hr103) ?_
       rintro _ w110 ⟨rfl, hS111⟩
       refine ⟨.agg (enc_api_Token t100).toArray, rfl, ?_⟩
       have hS112 := hb109 _ _ hS111
       refine sx_run 5 (todo' := [.inRegion (opsOf (cd28 [1, 0, 0, 1, 1, 1, 1, 1, 1, 1, 0, 1, 0])) [2, 3], .code (cd28 [1, 0, 0, 1, 1, 1, 1, 1, 1, 1, 0, 1, 1]), .inBlock 0, .code (cd28 [1, 1])]) (us := [(53, .pointer (some ⟨ba0, 0, none⟩)), (54, .agg (enc_api_Node (⟨1, 0, 0, (⟨0, (⟨#[]⟩ : ByteArray)⟩ : api_Ref), 0⟩ : api_Node)).toArray)]) (by kernel_rfl) ?_
       obtain ⟨⟨t113, t114, t115⟩, hr118, hp119⟩ := bind_some' hp104
       try dsimp only at hp119
       have hS121 := hS112.pick1
       refine r_call1 (c := (cd28 [1, 0, 0, 1, 1, 1, 1, 1, 1, 1, 0, 1, 0])) (i := 2) (d := (some 55)) (g := 19) (args := #[.pointer (some ⟨ba0, 0, none⟩), .agg (enc_api_Node (⟨1, 0, 0, (⟨0, (⟨#[]⟩ : ByteArray)⟩ : api_Ref), 0⟩ : api_Node)).toArray]) (by kernel_rfl) (by kernel_rfl) (by kernel_rfl) (by kernel_rfl) (weirref06_reader__node.ok (⟨a0v.L, t101, t102, a0v.Deep, a0v.C, a0v.F⟩ : weirref06_reader) (⟨1, 0, 0, (⟨0, (⟨#[]⟩ : ByteArray)⟩ : api_Ref), 0⟩ : api_Node) ba0 Aa0v_0 ca0v_0 Aa0v_4 ca0v_4 hS121 ha0v_0 hr118) ?_
       rintro _ w122 ⟨Q116, Q117, rfl, hS123⟩
       refine ⟨.int .i64 t113, rfl, ?_⟩
       refine sx_run 2 (todo' := [.code (cd28 [1, 0, 0, 1, 1, 1, 1, 1, 1, 1, 0, 1, 1]), .inBlock 0, .code (cd28 [1, 1])]) (us := [(2, .int .i64 t113)]) (by kernel_rfl) ?_
       refine runs_ret (fn := Tryz.f28) (v := .int .i64 t113) Tryz.func28 (by kernel_rfl) ?_
       have hr124 := (hq20 _ (Option.some.inj hp119))
       cases hr124
       exact hR _ _ ⟨Aa0v_0, ca0v_0, Q116, Q117, rfl, hS123, ha0v_0⟩
      ·skip
       have hp125 := ite_f hp86 h98
       refine sx_run 6 (todo' := [.code (cd28 [1, 1])]) (us := [(50, .bool false), (43, .bool false)]) (by kernel_rfl) ?_
       have hS126 := hS96.pick1
       refine Runs.fill (m := [some (.pointer (some ⟨ba0, 0, none⟩)), none, none, none, none, none, none, none, none, none, none, none, none, none, none, none, none, none, none, none, none, none, none, none, none, none, none, none, none, none, none, none, none, none, none, none, none, none, none, none, none, none, none, none, none, none, none, none, none, none, none, none, none, none, none, none, none, none]) (by kernel_rfl) ?_
       exact J21 (Option.some.inj hp125) _ _ hS126
    ·skip
     have hp127 := ite_t hp56 rfl
     refine sx_run 4 (todo' := [.inRegion (opsOf (cd28 [1, 0, 0, 1, 1, 1, 1, 1, 0, 0])) [1], .code (cd28 [1, 0, 0, 1, 1, 1, 1, 1, 0, 1]), .inBlock 0, .code (cd28 [1, 1])]) (us := [(29, .pointer (some ⟨ba0, 0, none⟩))]) (by kernel_rfl) ?_
     obtain ⟨⟨t128, t129, t130, t131⟩, hr132, hp133⟩ := bind_some' hp127
     try dsimp only at hp133
     obtain ⟨Z134, hz135, hS136, hs137, hb138⟩ := hS66.lendrow len_api_Node (by omega)
     refine r_call1 (c := (cd28 [1, 0, 0, 1, 1, 1, 1, 1, 0, 0])) (i := 1) (d := (some 30)) (g := 37) (args := #[.pointer (some ⟨ba0, 0, none⟩)]) (by kernel_rfl) (by kernel_rfl) (by kernel_rfl) (by kernel_rfl) (weirref06_reader__opens.ok (⟨a0v.L, a0v.At, a0v.Last, a0v.Deep, a0v.C, a0v.F⟩ : weirref06_reader) ba0 Aa0v_0 ca0v_0 Aa0v_4 ca0v_4 hS136 (ha0v_0.up hz135) hs137 hr132) ?_
     rintro _ w139 ⟨rfl, hS140⟩
     refine ⟨.tuple #[], rfl, ?_⟩
     have hS141 := hb138 _ _ hS140
     refine sx_run 4 (todo' := [.inRegion (opsOf (cd28 [1, 0, 0, 1, 1, 1, 1, 1, 0, 1, 0])) [1, 2], .code (cd28 [1, 0, 0, 1, 1, 1, 1, 1, 0, 1, 1]), .inBlock 0, .code (cd28 [1, 1])]) (us := [(31, .pointer (some ⟨ba0, 0, none⟩))]) (by kernel_rfl) ?_
     obtain ⟨⟨t142, t143, t144, t145, t146, t147, t148⟩, hr153, hp154⟩ := bind_some' hp133
     try dsimp only at hp154
     have hS157 := hS141.pick1
     refine r_call1 (c := (cd28 [1, 0, 0, 1, 1, 1, 1, 1, 0, 1, 0])) (i := 1) (d := (some 32)) (g := 11) (args := #[.pointer (some ⟨ba0, 0, none⟩)]) (by kernel_rfl) (by kernel_rfl) (by kernel_rfl) (by kernel_rfl) (weirref06_reader__or_2.ok rec_weirref06_reader__not hrec_weirref06_reader__not (⟨a0v.L, t128, t129, t130, a0v.C, t131⟩ : weirref06_reader) ba0 Aa0v_0 ca0v_0 Aa0v_4 ca0v_4 hS157 ha0v_0 hr153) ?_
     rintro _ w158 ⟨Q149, Q150, Q151, Q152, rfl, hS159, hs160⟩
     refine ⟨.int .i64 t142, rfl, ?_⟩
     refine sx_run 5 (todo' := [.inRegion (opsOf (cd28 [1, 0, 0, 1, 1, 1, 1, 1, 0, 1, 1, 0])) [1], .code (cd28 [1, 0, 0, 1, 1, 1, 1, 1, 0, 1, 1, 1]), .inBlock 0, .code (cd28 [1, 1])]) (us := [(4, .int .i64 t142), (33, .pointer (some ⟨ba0, 0, none⟩))]) (by kernel_rfl) ?_
     obtain ⟨⟨t161, t162, t163⟩, hr164, hp165⟩ := bind_some' hp154
     try dsimp only at hp165
     obtain ⟨Z166, hz167, hS168, hs169, hb170⟩ := hS159.lendrow len_api_Node (by omega)
     refine r_call1 (c := (cd28 [1, 0, 0, 1, 1, 1, 1, 1, 0, 1, 1, 0])) (i := 1) (d := (some 34)) (g := 38) (args := #[.pointer (some ⟨ba0, 0, none⟩), .string (⟨#[41]⟩ : ByteArray)]) (by kernel_rfl) (by kernel_rfl) (by kernel_rfl) (by kernel_rfl) (weirref06_reader__sign.ok (⟨t143, t144, t145, t146, t147, t148⟩ : weirref06_reader) (⟨#[41]⟩ : ByteArray) ba0 Q149 Q150 Q151 Q152 hS168 (hs160.up hz167) hs169 hr164) ?_
     rintro _ w171 ⟨rfl, hS172⟩
     refine ⟨.tuple #[], rfl, ?_⟩
     have hS173 := hb170 _ _ hS172
     refine sx_run 6 (todo' := [.inRegion (opsOf (cd28 [1, 0, 0, 1, 1, 1, 1, 1, 0, 1, 1, 1, 0])) [3, 4, 5, 6, 7], .code (cd28 [1, 0, 0, 1, 1, 1, 1, 1, 0, 1, 1, 1, 1]), .inBlock 0, .code (cd28 [1, 1])]) (us := [(35, .pointer (some ⟨ba0, 0, none⟩)), (36, .pointer (some ⟨ba0, 0, none⟩)), (37, .pointer (some ⟨ba0, 9, none⟩))]) (by kernel_rfl) ?_
     refine r_load (c := (cd28 [1, 0, 0, 1, 1, 1, 1, 1, 0, 1, 1, 1, 0])) (i := 3) (d := (some 38)) (ty := 3) (t := 3) (x := (.tmp 37)) (p := ⟨ba0, 9, none⟩) (v := .int .i64 t146) (by kernel_rfl) (by kernel_rfl) (by kernel_rfl) (loads_at 9 (hS173.blk 1 rfl) (by kernel_rfl) (by kernel_rfl)) ?_
     refine sx_run 3 (todo' := [.inRegion (opsOf (cd28 [1, 0, 0, 1, 1, 1, 1, 1, 0, 1, 1, 1, 0])) [7], .code (cd28 [1, 0, 0, 1, 1, 1, 1, 1, 0, 1, 1, 1, 1]), .inBlock 0, .code (cd28 [1, 1])]) (us := [(39, .int .i64 (IntKind.i64.wrap (t146 - 1))), (40, .pointer (some ⟨ba0, 0, none⟩)), (41, .pointer (some ⟨ba0, 9, none⟩))]) (by kernel_rfl) ?_
     have hS174 := hS173.pick1
     refine r_store (c := (cd28 [1, 0, 0, 1, 1, 1, 1, 1, 0, 1, 1, 1, 0])) (i := 7) (d := none) (ty := 0) (t := 3) (x := (.tmp 41)) (y := (.tmp 39)) (b := ba0) (o := 9) (e := 48) (cs := [.slice Q149 t143.length Q150] ++ [.int .i64 t161] ++ (enc_api_Token t162) ++ [.int .i64 t146] ++ [.slice Q151 t147.length Q152] ++ (enc_weirref05_Fault t163)) (v := .int .i64 (IntKind.i64.wrap (t146 - 1))) (vs := [.int .i64 (IntKind.i64.wrap (t146 - 1))]) (cs' := [.slice Q149 t143.length Q150] ++ [.int .i64 t161] ++ (enc_api_Token t162) ++ [.int .i64 (IntKind.i64.wrap (t146 - 1))] ++ [.slice Q151 t147.length Q152] ++ (enc_weirref05_Fault t163)) hS174 (by kernel_rfl) (by kernel_rfl) (by kernel_rfl) (by kernel_rfl) (by kernel_rfl) (by kernel_rfl) (by kernel_rfl) (Nat.le_of_ble_eq_true (by kernel_rfl)) (by kernel_rfl) ?_
     intro w175 hS176
     refine sx_run 6 (todo' := [.code (cd28 [1, 0, 0, 1, 1, 1, 1, 1, 0, 1, 1, 1, 1, 1]), .inBlock 0, .code (cd28 [1, 1])]) (us := [(42, .int .i64 t142), (2, .int .i64 t142)]) (by kernel_rfl) ?_
     have hS177 := hS176.pick1
     refine runs_ret (fn := Tryz.f28) (v := .int .i64 t142) Tryz.func28 (by kernel_rfl) ?_
     have hr178 := (hq20 _ (Option.some.inj hp165))
     cases hr178
     exact hR _ _ ⟨Q149, Q150, Q151, Q152, rfl, hS177, hs160⟩
   ·skip
    have hp179 := ite_t hp42 rfl
    refine sx_run 4 (todo' := [.inRegion (opsOf (cd28 [1, 0, 0, 1, 1, 1, 0, 0])) [1], .code (cd28 [1, 0, 0, 1, 1, 1, 0, 1]), .inBlock 0, .code (cd28 [1, 1])]) (us := [(11, .pointer (some ⟨ba0, 0, none⟩))]) (by kernel_rfl) ?_
    obtain ⟨⟨t180, t181, t182, t183⟩, hr184, hp185⟩ := bind_some' hp179
    try dsimp only at hp185
    obtain ⟨Z186, hz187, hS188, hs189, hb190⟩ := hS52.lendrow len_api_Node (by omega)
    refine r_call1 (c := (cd28 [1, 0, 0, 1, 1, 1, 0, 0])) (i := 1) (d := (some 12)) (g := 37) (args := #[.pointer (some ⟨ba0, 0, none⟩)]) (by kernel_rfl) (by kernel_rfl) (by kernel_rfl) (by kernel_rfl) (weirref06_reader__opens.ok (⟨a0v.L, a0v.At, a0v.Last, a0v.Deep, a0v.C, a0v.F⟩ : weirref06_reader) ba0 Aa0v_0 ca0v_0 Aa0v_4 ca0v_4 hS188 (ha0v_0.up hz187) hs189 hr184) ?_
    rintro _ w191 ⟨rfl, hS192⟩
    refine ⟨.tuple #[], rfl, ?_⟩
    have hS193 := hb190 _ _ hS192
    refine sx_run 4 (todo' := [.inRegion (opsOf (cd28 [1, 0, 0, 1, 1, 1, 0, 1, 0])) [1, 2], .code (cd28 [1, 0, 0, 1, 1, 1, 0, 1, 1]), .inBlock 0, .code (cd28 [1, 1])]) (us := [(13, .pointer (some ⟨ba0, 0, none⟩))]) (by kernel_rfl) ?_
    obtain ⟨⟨t194, t195, t196, t197, t198, t199, t200⟩, hr205, hp206⟩ := bind_some' hp185
    try dsimp only at hp206
    have hS209 := hS193.pick1
    refine r_call1 (c := (cd28 [1, 0, 0, 1, 1, 1, 0, 1, 0])) (i := 1) (d := (some 14)) (g := 28) (args := #[.pointer (some ⟨ba0, 0, none⟩)]) (by kernel_rfl) (by kernel_rfl) (by kernel_rfl) (by kernel_rfl) (hrec_weirref06_reader__not (⟨a0v.L, t180, t181, t182, a0v.C, t183⟩ : weirref06_reader) ba0 Aa0v_0 ca0v_0 Aa0v_4 ca0v_4 hS209 ha0v_0 hr205) ?_
    rintro _ w210 ⟨Q201, Q202, Q203, Q204, rfl, hS211, hs212⟩
    refine ⟨.int .i64 t194, rfl, ?_⟩
    refine sx_run 7 (todo' := [.inRegion (opsOf (cd28 [1, 0, 0, 1, 1, 1, 0, 1, 1, 0])) [3, 4, 5, 6, 7], .code (cd28 [1, 0, 0, 1, 1, 1, 0, 1, 1, 1]), .inBlock 0, .code (cd28 [1, 1])]) (us := [(3, .int .i64 t194), (15, .pointer (some ⟨ba0, 0, none⟩)), (16, .pointer (some ⟨ba0, 0, none⟩)), (17, .pointer (some ⟨ba0, 9, none⟩))]) (by kernel_rfl) ?_
    refine r_load (c := (cd28 [1, 0, 0, 1, 1, 1, 0, 1, 1, 0])) (i := 3) (d := (some 18)) (ty := 3) (t := 3) (x := (.tmp 17)) (p := ⟨ba0, 9, none⟩) (v := .int .i64 t198) (by kernel_rfl) (by kernel_rfl) (by kernel_rfl) (loads_at 9 (hS211.blk 1 rfl) (by kernel_rfl) (by kernel_rfl)) ?_
    refine sx_run 3 (todo' := [.inRegion (opsOf (cd28 [1, 0, 0, 1, 1, 1, 0, 1, 1, 0])) [7], .code (cd28 [1, 0, 0, 1, 1, 1, 0, 1, 1, 1]), .inBlock 0, .code (cd28 [1, 1])]) (us := [(19, .int .i64 (IntKind.i64.wrap (t198 - 1))), (20, .pointer (some ⟨ba0, 0, none⟩)), (21, .pointer (some ⟨ba0, 9, none⟩))]) (by kernel_rfl) ?_
    have hS213 := hS211.pick1
    refine r_store (c := (cd28 [1, 0, 0, 1, 1, 1, 0, 1, 1, 0])) (i := 7) (d := none) (ty := 0) (t := 3) (x := (.tmp 21)) (y := (.tmp 19)) (b := ba0) (o := 9) (e := 48) (cs := [.slice Q201 t195.length Q202] ++ [.int .i64 t196] ++ (enc_api_Token t197) ++ [.int .i64 t198] ++ [.slice Q203 t199.length Q204] ++ (enc_weirref05_Fault t200)) (v := .int .i64 (IntKind.i64.wrap (t198 - 1))) (vs := [.int .i64 (IntKind.i64.wrap (t198 - 1))]) (cs' := [.slice Q201 t195.length Q202] ++ [.int .i64 t196] ++ (enc_api_Token t197) ++ [.int .i64 (IntKind.i64.wrap (t198 - 1))] ++ [.slice Q203 t199.length Q204] ++ (enc_weirref05_Fault t200)) hS213 (by kernel_rfl) (by kernel_rfl) (by kernel_rfl) (by kernel_rfl) (by kernel_rfl) (by kernel_rfl) (by kernel_rfl) (Nat.le_of_ble_eq_true (by kernel_rfl)) (by kernel_rfl) ?_
    intro w214 hS215
    refine sx_run 6 (todo' := [.inRegion (opsOf (cd28 [1, 0, 0, 1, 1, 1, 0, 1, 1, 1, 0])) [3, 4], .code (cd28 [1, 0, 0, 1, 1, 1, 0, 1, 1, 1, 1]), .inBlock 0, .code (cd28 [1, 1])]) (us := [(22, .pointer (some ⟨ba0, 0, none⟩)), (23, .int .i64 t194), (24, .agg (enc_api_Node (⟨3, t194, 0, (⟨0, (⟨#[]⟩ : ByteArray)⟩ : api_Ref), 0⟩ : api_Node)).toArray)]) (by kernel_rfl) ?_
    obtain ⟨⟨t216, t217, t218⟩, hr221, hp222⟩ := bind_some' hp206
    try dsimp only at hp222
    have hS224 := hS215.pick1
    have hS225 := hS224.pick1
    refine r_call1 (c := (cd28 [1, 0, 0, 1, 1, 1, 0, 1, 1, 1, 0])) (i := 3) (d := (some 25)) (g := 19) (args := #[.pointer (some ⟨ba0, 0, none⟩), .agg (enc_api_Node (⟨3, t194, 0, (⟨0, (⟨#[]⟩ : ByteArray)⟩ : api_Ref), 0⟩ : api_Node)).toArray]) (by kernel_rfl) (by kernel_rfl) (by kernel_rfl) (by kernel_rfl) (weirref06_reader__node.ok (⟨t195, t196, t197, (IntKind.i64.wrap (t198 - 1)), t199, t200⟩ : weirref06_reader) (⟨3, t194, 0, (⟨0, (⟨#[]⟩ : ByteArray)⟩ : api_Ref), 0⟩ : api_Node) ba0 Q201 Q202 Q203 Q204 hS225 hs212 hr221) ?_
    rintro _ w226 ⟨Q219, Q220, rfl, hS227⟩
    refine ⟨.int .i64 t216, rfl, ?_⟩
    refine sx_run 2 (todo' := [.code (cd28 [1, 0, 0, 1, 1, 1, 0, 1, 1, 1, 1]), .inBlock 0, .code (cd28 [1, 1])]) (us := [(2, .int .i64 t216)]) (by kernel_rfl) ?_
    refine runs_ret (fn := Tryz.f28) (v := .int .i64 t216) Tryz.func28 (by kernel_rfl) ?_
    have hr228 := (hq20 _ (Option.some.inj hp222))
    cases hr228
    exact hR _ _ ⟨Q201, Q202, Q219, Q220, rfl, hS227, hs212⟩
  ·skip
   have hp229 := ite_t hv16 rfl
   refine sx_run 5 (todo' := [.code (cd28 [1, 0, 0, 1, 0, 1]), .inBlock 0, .code (cd28 [1, 1])]) (us := [(2, .int .i64 0)]) (by kernel_rfl) ?_
   refine runs_ret (fn := Tryz.f28) (v := .int .i64 0) Tryz.func28 (by kernel_rfl) ?_
   have hr230 := (hq20 _ (Option.some.inj hp229))
   cases hr230
   exact hR _ _ ⟨Aa0v_0, ca0v_0, Aa0v_4, ca0v_4, rfl, hS14, ha0v_0⟩
def weirref06_reader__not.f : Nat → weirref06_reader → Option (Int × (List api_Token) × Int × api_Token × Int × (List api_Node) × weirref05_Fault)
  | 0 => fun _ => none
  | n + 1 => weirref06_reader__not.body (weirref06_reader__not.f n)
theorem weirref06_reader__not.all : ∀ n, weirref06_reader__not.Spec (weirref06_reader__not.f n)
  | 0 => by
    intro a0v ba0 Aa0v_0 ca0v_0 Aa0v_4 ca0v_4 w0 Z fs w hS0 ha0v_0 q0 q1 q2 q3 q4 q5 q6 hp0
    cases hp0
  | n + 1 => weirref06_reader__not.bok (weirref06_reader__not.f n) (weirref06_reader__not.all n)
theorem weirref06_reader__not.ok : weirref06_reader__not.Spec (weirref06_reader__not.f fuelN) := weirref06_reader__not.all fuelN

noncomputable def cd5 (p : List Nat) : Code := sub (bodyOf Tryz.f5) p
def weirref06_Take.f (a0 : List api_Token) (a1 : Int) : Option ((List api_Node) × Int × weirref05_Fault) :=
  (if (decide (a1 < 0)) = true then some (([], 0, (⟨(-1), 0, 4⟩ : weirref05_Fault))) else (if (decide (a1 > (a0.length : Int))) = true then some (([], 0, (⟨(-1), 0, 4⟩ : weirref05_Fault))) else (weirref06_reader__or_2.f (weirref06_reader__not.f fuelN) (⟨a0, a1, (⟨0, (⟨#[]⟩ : ByteArray), 0, 0, 0, 0, 0⟩ : api_Token), 0, ([] : List api_Node), (⟨0, 0, 0⟩ : weirref05_Fault)⟩ : weirref06_reader) >>= (fun (t33, t34, t35, t36, t37, t38, t39) => (weirref06_reader__bad.f (⟨t34, t35, t36, t37, t38, t39⟩ : weirref06_reader) >>= (fun t52 => (if t52 = true then some (([], 0, t39)) else some ((t38, t35, (⟨0, 0, 0⟩ : weirref05_Fault))))))))))
set_option maxHeartbeats 16000000 in
theorem weirref06_Take.ok (a0 : List api_Token) (a1 : Int) (Aa0 : Option Addr) (ca0 : Nat) {w0 : World} {Z : Zm} {fs : List XObj} {w : World} (hS0 : St w0 Z (fs) w) (ha0 : SlZ (flat enc_api_Token) 7 Z Aa0 ca0 a0) {q0 : List api_Node} {q1 : Int} {q2 : weirref05_Fault} (hp0 : weirref06_Take.f a0 a1 = some (q0, q1, q2)) :
    Calls Tryz.prog 5 #[.slice Aa0 a0.length ca0, .int .i64 a1] w (fun e w' => ∃ (QA0 : Option Addr) (Qc0 : Nat), e = .returned (.tuple #[.slice QA0 q0.length Qc0, .int .i64 q1, .agg (enc_weirref05_Fault q2).toArray]) ∧ St w0 Z (xrow QA0 Qc0 53 6 (q0.flatMap enc_api_Node) :: fs) w') := by
  refine calls_abs ?_; intro R hR
  unfold weirref06_Take.f at hp0
  refine calls_of_runs (fn := Tryz.f5) (c := cd5 []) Tryz.func5 (by kernel_rfl) (al := [.slice Aa0 a0.length ca0, .int .i64 a1]) rfl (n := 36) rfl ?_
  refine sx_run 4 (todo' := [.inRegion (opsOf (cd5 [0])) [2], .code (cd5 [1])]) (us := [(4, .slice none 0 0), (5, .int .i64 0)]) (by kernel_rfl) ?_
  refine r_alloc (c := (cd5 [0])) (i := 2) (d := (some 6)) (ty := 0) (z := .agg (enc_weirref05_Fault (⟨0, 0, 0⟩ : weirref05_Fault)).toArray) (t := 32) (cs := enc_weirref05_Fault (⟨0, 0, 0⟩ : weirref05_Fault)) hS0 (by kernel_rfl) (by kernel_rfl) (by kernel_rfl) (by kernel_rfl) ?_
  intro b1 w2 hS3
  refine sx_split 6 (todo' := [.inRegion (opsOf (cd5 [1, 0, 0])) [2, 3, 4, 5, 6, 7], .code (cd5 [1, 0, 1]), .code (cd5 [1, 1])]) (us := [(8, .int .i64 a1)]) (d := 9) (t := (decide (a1 < 0))) (by kernel_rfl) (fun h5 => ?_) (fun h6 => ?_)
  ·skip
   have hp7 := ite_t hp0 h5
   refine sx_run 13 (todo' := [.inRegion (opsOf (cd5 [1, 0, 1, 0, 0])) [3], .code (cd5 [1, 0, 1, 0, 1]), .code (cd5 [1, 1])]) (us := [(10, .bool true), (11, undef), (12, undef), (13, undef), (14, undef), (15, .bool true), (16, .agg (enc_weirref05_Fault (⟨(-1), 0, 4⟩ : weirref05_Fault)).toArray), (4, .slice none 0 0), (5, .int .i64 0)]) (by kernel_rfl) ?_
   refine r_store (c := (cd5 [1, 0, 1, 0, 0])) (i := 3) (d := none) (ty := 0) (t := 32) (x := (.tmp 6)) (y := (.tmp 16)) (b := b1) (o := 0) (e := 32) (cs := enc_weirref05_Fault (⟨0, 0, 0⟩ : weirref05_Fault)) (v := .agg (enc_weirref05_Fault (⟨(-1), 0, 4⟩ : weirref05_Fault)).toArray) (vs := enc_weirref05_Fault (⟨(-1), 0, 4⟩ : weirref05_Fault)) (cs' := enc_weirref05_Fault (⟨(-1), 0, 4⟩ : weirref05_Fault)) hS3 (by kernel_rfl) (by kernel_rfl) (by kernel_rfl) (by kernel_rfl) (by kernel_rfl) (by kernel_rfl) (one_weirref05_Fault _) (Nat.le_of_ble_eq_true (by kernel_rfl)) (by kernel_rfl) ?_
   intro w8 hS9
   refine sx_run 1 (todo' := [.code (cd5 [1, 0, 1, 0, 1]), .code (cd5 [1, 1])]) (us := []) (by kernel_rfl) ?_
   have hS11 := hS9.nilrow none 53 6
   have hS12 := hS11.pick1
   have hS13 := hS12.drop
   refine runs_ret (fn := Tryz.f5) (v := .tuple #[.slice none 0 0, .int .i64 0, .agg (enc_weirref05_Fault (⟨(-1), 0, 4⟩ : weirref05_Fault)).toArray]) Tryz.func5 (resl_run (fn := Tryz.f5) (by kernel_rfl) (.tmp (t := 4) (by kernel_rfl) (.tmp (t := 5) (by kernel_rfl) (.cell (t := 6) (ty := 32) (by kernel_rfl) (loads_agg (hS9.blk 0 rfl) (by kernel_rfl) (by kernel_rfl)) .nil)))) ?_
   have hr14 := (Option.some.inj hp7)
   cases hr14
   exact hR _ _ ⟨none, 0, rfl, hS13⟩
  ·skip
   have hp15 := ite_f hp0 h6
   refine sx_split 5 (todo' := [.inRegion (opsOf (cd5 [1, 0, 0])) [7], .code (cd5 [1, 0, 1]), .code (cd5 [1, 1])]) (us := [(10, .bool false), (11, .int .i64 a1), (12, .slice Aa0 a0.length ca0), (13, .int .i64 (a0.length : Int))]) (d := 14) (t := (decide (a1 > (a0.length : Int)))) (by kernel_rfl) (fun h16 => ?_) (fun h17 => ?_)
   ·skip
    have hp18 := ite_t hp15 h16
    refine sx_run 8 (todo' := [.inRegion (opsOf (cd5 [1, 0, 1, 0, 0])) [3], .code (cd5 [1, 0, 1, 0, 1]), .code (cd5 [1, 1])]) (us := [(15, .bool true), (16, .agg (enc_weirref05_Fault (⟨(-1), 0, 4⟩ : weirref05_Fault)).toArray), (4, .slice none 0 0), (5, .int .i64 0)]) (by kernel_rfl) ?_
    refine r_store (c := (cd5 [1, 0, 1, 0, 0])) (i := 3) (d := none) (ty := 0) (t := 32) (x := (.tmp 6)) (y := (.tmp 16)) (b := b1) (o := 0) (e := 32) (cs := enc_weirref05_Fault (⟨0, 0, 0⟩ : weirref05_Fault)) (v := .agg (enc_weirref05_Fault (⟨(-1), 0, 4⟩ : weirref05_Fault)).toArray) (vs := enc_weirref05_Fault (⟨(-1), 0, 4⟩ : weirref05_Fault)) (cs' := enc_weirref05_Fault (⟨(-1), 0, 4⟩ : weirref05_Fault)) hS3 (by kernel_rfl) (by kernel_rfl) (by kernel_rfl) (by kernel_rfl) (by kernel_rfl) (by kernel_rfl) (one_weirref05_Fault _) (Nat.le_of_ble_eq_true (by kernel_rfl)) (by kernel_rfl) ?_
    intro w19 hS20
    refine sx_run 1 (todo' := [.code (cd5 [1, 0, 1, 0, 1]), .code (cd5 [1, 1])]) (us := []) (by kernel_rfl) ?_
    have hS22 := hS20.nilrow none 53 6
    have hS23 := hS22.pick1
    have hS24 := hS23.drop
    refine runs_ret (fn := Tryz.f5) (v := .tuple #[.slice none 0 0, .int .i64 0, .agg (enc_weirref05_Fault (⟨(-1), 0, 4⟩ : weirref05_Fault)).toArray]) Tryz.func5 (resl_run (fn := Tryz.f5) (by kernel_rfl) (.tmp (t := 4) (by kernel_rfl) (.tmp (t := 5) (by kernel_rfl) (.cell (t := 6) (ty := 32) (by kernel_rfl) (loads_agg (hS20.blk 0 rfl) (by kernel_rfl) (by kernel_rfl)) .nil)))) ?_
    have hr25 := (Option.some.inj hp18)
    cases hr25
    exact hR _ _ ⟨none, 0, rfl, hS24⟩
   ·skip
    have hp26 := ite_f hp15 h17
    refine sx_run 9 (todo' := [.inRegion (opsOf (cd5 [1, 1, 0])) [3, 4], .code (cd5 [1, 1, 1])]) (us := [(15, .bool false), (17, .slice Aa0 a0.length ca0), (18, .int .i64 a1), (19, .agg ([.slice Aa0 a0.length ca0] ++ [.int .i64 a1] ++ (enc_api_Token (⟨0, (⟨#[]⟩ : ByteArray), 0, 0, 0, 0, 0⟩ : api_Token)) ++ [.int .i64 0] ++ [.slice none 0 0] ++ (enc_weirref05_Fault (⟨0, 0, 0⟩ : weirref05_Fault)) : List Value).toArray)]) (by kernel_rfl) ?_
    refine r_box (c := (cd5 [1, 1, 0])) (i := 3) (d := (some 20)) (ty := 46) (x := (.tmp 19)) (v := .agg ([.slice Aa0 a0.length ca0] ++ [.int .i64 a1] ++ (enc_api_Token (⟨0, (⟨#[]⟩ : ByteArray), 0, 0, 0, 0, 0⟩ : api_Token)) ++ [.int .i64 0] ++ [.slice none 0 0] ++ (enc_weirref05_Fault (⟨0, 0, 0⟩ : weirref05_Fault)) : List Value).toArray) (t := 48) (cs := [.slice Aa0 a0.length ca0] ++ [.int .i64 a1] ++ (enc_api_Token (⟨0, (⟨#[]⟩ : ByteArray), 0, 0, 0, 0, 0⟩ : api_Token)) ++ [.int .i64 0] ++ [.slice none 0 0] ++ (enc_weirref05_Fault (⟨0, 0, 0⟩ : weirref05_Fault))) hS3 (by kernel_rfl) (by kernel_rfl) (by kernel_rfl) (by kernel_rfl) ?_
    intro b27 w28 hS29
    refine sx_run 5 (todo' := [.inRegion (opsOf (cd5 [1, 1, 1, 0])) [1], .code (cd5 [1, 1, 1, 1])]) (us := [(7, .pointer (some ⟨b27, 0, none⟩)), (21, .pointer (some ⟨b27, 0, none⟩))]) (by kernel_rfl) ?_
    have hS32 := hS29.nilrow none 53 6
    obtain ⟨⟨t33, t34, t35, t36, t37, t38, t39⟩, hr44, hp45⟩ := bind_some' hp26
    try dsimp only at hp45
    have hS48 := hS32.pick1
    refine r_call1 (c := (cd5 [1, 1, 1, 0])) (i := 1) (d := (some 22)) (g := 11) (args := #[.pointer (some ⟨b27, 0, none⟩)]) (by kernel_rfl) (by kernel_rfl) (by kernel_rfl) (by kernel_rfl) (weirref06_reader__or_2.ok (weirref06_reader__not.f fuelN) weirref06_reader__not.ok (⟨a0, a1, (⟨0, (⟨#[]⟩ : ByteArray), 0, 0, 0, 0, 0⟩ : api_Token), 0, ([] : List api_Node), (⟨0, 0, 0⟩ : weirref05_Fault)⟩ : weirref06_reader) b27 Aa0 ca0 none 0 hS48 ha0 hr44) ?_
    rintro _ w49 ⟨Q40, Q41, Q42, Q43, rfl, hS50, hs51⟩
    refine ⟨.int .i64 t33, rfl, ?_⟩
    refine sx_run 5 (todo' := [.inRegion (opsOf (cd5 [1, 1, 1, 1, 0, 0])) [1], .code (cd5 [1, 1, 1, 1, 0, 1]), .code (cd5 [1, 1, 1, 1, 1])]) (us := [(23, .pointer (some ⟨b27, 0, none⟩))]) (by kernel_rfl) ?_
    obtain ⟨t52, hr53, hp54⟩ := bind_some' hp45
    obtain ⟨Z57, hz58, hS59, hs60, hb61⟩ := hS50.lendrow len_api_Node (by omega)
    refine r_call1 (c := (cd5 [1, 1, 1, 1, 0, 0])) (i := 1) (d := (some 24)) (g := 12) (args := #[.pointer (some ⟨b27, 0, none⟩)]) (by kernel_rfl) (by kernel_rfl) (by kernel_rfl) (by kernel_rfl) (weirref06_reader__bad.ok (⟨t34, t35, t36, t37, t38, t39⟩ : weirref06_reader) b27 Q40 Q41 Q42 Q43 hS59 (hs51.up hz58) hs60 hr53) ?_
    rintro _ w62 ⟨rfl, hS63⟩
    refine ⟨.bool t52, rfl, ?_⟩
    have hS64 := hb61 _ _ hS63
    refine sx_run 1 (todo' := [.code (cd5 [1, 1, 1, 1, 0, 1]), .code (cd5 [1, 1, 1, 1, 1])]) (us := []) (by kernel_rfl) ?_
    cases t52
    ·skip
     have hp65 := ite_f hp54 rfl
     refine sx_run 3 (todo' := [.code (cd5 [1, 1, 1, 1, 1, 0]), .code (cd5 [1, 1, 1, 1, 1, 1])]) (us := []) (by kernel_rfl) ?_
     refine r_drawn3 (C := St w0 Z (xrow Q42 Q43 53 6 (t38.flatMap enc_api_Node) :: xblk b27 48 ([.slice Q40 t34.length Q41] ++ [.int .i64 t35] ++ (enc_api_Token t36) ++ [.int .i64 t37] ++ [.slice Q42 t38.length Q43] ++ (enc_weirref05_Fault t39)) :: xblk b1 32 (enc_weirref05_Fault (⟨0, 0, 0⟩ : weirref05_Fault)) :: fs)) (c := (cd5 [1, 1, 1, 1, 1, 0])) (id := 7) (by kernel_rfl) (by kernel_rfl) 11 (Nat.le_of_ble_eq_true (by kernel_rfl)) (by kernel_rfl) (by kernel_rfl) (by kernel_rfl) (is := [0, 1, 2, 3, 4, 5, 6, 7, 8, 9, 10]) (rest := [11]) (by kernel_rfl) (by kernel_rfl) hS64.drew ?_
     refine q_run 3 (is' := [3, 4, 5, 6, 7, 8, 9, 10]) (us := [(29, .pointer (some ⟨b27, 0, none⟩)), (30, .pointer (some ⟨b27, 0, none⟩)), (31, .pointer (some ⟨b27, 10, none⟩))]) (by kernel_rfl) ?_
     refine q_load (c := (hd (cd5 [1, 1, 1, 1, 1, 0]) 11)) (i := 3) (d := (some 32)) (ty := 26) (t := 26) (x := (.tmp 31)) (p := ⟨b27, 10, none⟩) (v := .slice Q42 t38.length Q43) (by kernel_rfl) (by kernel_rfl) (by kernel_rfl) (fun w hC => (loads_at 10 (hC.blk 1 rfl) (by kernel_rfl) (by kernel_rfl))) ?_
     refine q_run 3 (is' := [7, 8, 9, 10]) (us := [(33, .pointer (some ⟨b27, 0, none⟩)), (34, .pointer (some ⟨b27, 0, none⟩)), (35, .pointer (some ⟨b27, 1, none⟩))]) (by kernel_rfl) ?_
     refine q_load (c := (hd (cd5 [1, 1, 1, 1, 1, 0]) 11)) (i := 7) (d := (some 36)) (ty := 3) (t := 3) (x := (.tmp 35)) (p := ⟨b27, 1, none⟩) (v := .int .i64 t35) (by kernel_rfl) (by kernel_rfl) (by kernel_rfl) (fun w hC => (loads_at 1 (hC.blk 1 rfl) (by kernel_rfl) (by kernel_rfl))) ?_
     refine q_run 3 (is' := []) (us := [(37, .agg (enc_weirref05_Fault (⟨0, 0, 0⟩ : weirref05_Fault)).toArray), (4, .slice Q42 t38.length Q43), (5, .int .i64 t35)]) (by kernel_rfl) ?_
     refine Qs.nil ?_
     intro w66 hS67
     have hS68 := hS67.pick2
     refine r_store (c := (cd5 [1, 1, 1, 1, 1, 0])) (i := 11) (d := none) (ty := 0) (t := 32) (x := (.tmp 6)) (y := (.tmp 37)) (b := b1) (o := 0) (e := 32) (cs := enc_weirref05_Fault (⟨0, 0, 0⟩ : weirref05_Fault)) (v := .agg (enc_weirref05_Fault (⟨0, 0, 0⟩ : weirref05_Fault)).toArray) (vs := enc_weirref05_Fault (⟨0, 0, 0⟩ : weirref05_Fault)) (cs' := enc_weirref05_Fault (⟨0, 0, 0⟩ : weirref05_Fault)) hS68 (by kernel_rfl) (by kernel_rfl) (by kernel_rfl) (by kernel_rfl) (by kernel_rfl) (by kernel_rfl) (one_weirref05_Fault _) (Nat.le_of_ble_eq_true (by kernel_rfl)) (by kernel_rfl) ?_
     intro w69 hS70
     refine sx_run 1 (todo' := [.code (cd5 [1, 1, 1, 1, 1, 1])]) (us := []) (by kernel_rfl) ?_
     have hS71 := hS70.drop
     have hS72 := hS71.pick1
     have hS73 := hS72.drop
     refine runs_ret (fn := Tryz.f5) (v := .tuple #[.slice Q42 t38.length Q43, .int .i64 t35, .agg (enc_weirref05_Fault (⟨0, 0, 0⟩ : weirref05_Fault)).toArray]) Tryz.func5 (resl_run (fn := Tryz.f5) (by kernel_rfl) (.tmp (t := 4) (by kernel_rfl) (.tmp (t := 5) (by kernel_rfl) (.cell (t := 6) (ty := 32) (by kernel_rfl) (loads_agg (hS70.blk 0 rfl) (by kernel_rfl) (by kernel_rfl)) .nil)))) ?_
     have hr74 := (Option.some.inj hp65)
     cases hr74
     exact hR _ _ ⟨Q42, Q43, rfl, hS73⟩
    ·skip
     have hp75 := ite_t hp54 rfl
     refine sx_run 2 (todo' := [.code (cd5 [1, 1, 1, 1, 0, 1, 0, 0]), .code (cd5 [1, 1, 1, 1, 0, 1, 0, 1]), .code (cd5 [1, 1, 1, 1, 1])]) (us := []) (by kernel_rfl) ?_
     refine r_drawn3 (C := St w0 Z (xrow Q42 Q43 53 6 (t38.flatMap enc_api_Node) :: xblk b27 48 ([.slice Q40 t34.length Q41] ++ [.int .i64 t35] ++ (enc_api_Token t36) ++ [.int .i64 t37] ++ [.slice Q42 t38.length Q43] ++ (enc_weirref05_Fault t39)) :: xblk b1 32 (enc_weirref05_Fault (⟨0, 0, 0⟩ : weirref05_Fault)) :: fs)) (c := (cd5 [1, 1, 1, 1, 0, 1, 0, 0])) (id := 6) (by kernel_rfl) (by kernel_rfl) 6 (Nat.le_of_ble_eq_true (by kernel_rfl)) (by kernel_rfl) (by kernel_rfl) (by kernel_rfl) (is := [0, 1, 2, 3, 4, 5]) (rest := [6]) (by kernel_rfl) (by kernel_rfl) hS64.drew ?_
     refine q_run 3 (is' := [3, 4, 5]) (us := [(25, .pointer (some ⟨b27, 0, none⟩)), (26, .pointer (some ⟨b27, 0, none⟩)), (27, .pointer (some ⟨b27, 11, none⟩))]) (by kernel_rfl) ?_
     refine q_load (c := (hd (cd5 [1, 1, 1, 1, 0, 1, 0, 0]) 6)) (i := 3) (d := (some 28)) (ty := 32) (t := 32) (x := (.tmp 27)) (p := ⟨b27, 11, none⟩) (v := .agg (enc_weirref05_Fault t39).toArray) (by kernel_rfl) (by kernel_rfl) (by kernel_rfl) (fun w hC => (loads_agg (Cells.mid' (pre := [.slice Q40 t34.length Q41] ++ [.int .i64 t35] ++ (enc_api_Token t36) ++ [.int .i64 t37] ++ [.slice Q42 t38.length Q43]) (cs := enc_weirref05_Fault t39) (post := []) (off := 11) (hC.blk 1 rfl) (by simp [len_api_Token, len_weirref05_Fault]) (by simp)) (by kernel_rfl) (by kernel_rfl))) ?_
     refine q_run 2 (is' := []) (us := [(4, .slice none 0 0), (5, .int .i64 0)]) (by kernel_rfl) ?_
     refine Qs.nil ?_
     intro w76 hS77
     have hS78 := hS77.pick2
     refine r_store (c := (cd5 [1, 1, 1, 1, 0, 1, 0, 0])) (i := 6) (d := none) (ty := 0) (t := 32) (x := (.tmp 6)) (y := (.tmp 28)) (b := b1) (o := 0) (e := 32) (cs := enc_weirref05_Fault (⟨0, 0, 0⟩ : weirref05_Fault)) (v := .agg (enc_weirref05_Fault t39).toArray) (vs := enc_weirref05_Fault t39) (cs' := enc_weirref05_Fault t39) hS78 (by kernel_rfl) (by kernel_rfl) (by kernel_rfl) (by kernel_rfl) (by kernel_rfl) (by kernel_rfl) (one_weirref05_Fault _) (Nat.le_of_ble_eq_true (by kernel_rfl)) (by kernel_rfl) ?_
     intro w79 hS80
     refine sx_run 1 (todo' := [.code (cd5 [1, 1, 1, 1, 0, 1, 0, 1]), .code (cd5 [1, 1, 1, 1, 1])]) (us := []) (by kernel_rfl) ?_
     have hS82 := hS80.nilrow none 53 6
     have hS83 := hS82.pick1
     have hS84 := hS83.drop
     have hS85 := hS84.pick1
     have hS86 := hS85.drop
     have hS87 := hS86.pick1
     have hS88 := hS87.drop
     refine runs_ret (fn := Tryz.f5) (v := .tuple #[.slice none 0 0, .int .i64 0, .agg (enc_weirref05_Fault t39).toArray]) Tryz.func5 (resl_run (fn := Tryz.f5) (by kernel_rfl) (.tmp (t := 4) (by kernel_rfl) (.tmp (t := 5) (by kernel_rfl) (.cell (t := 6) (ty := 32) (by kernel_rfl) (loads_agg (hS80.blk 0 rfl) (by kernel_rfl) (by kernel_rfl)) .nil)))) ?_
     have hr89 := (Option.some.inj hp75)
     cases hr89
     exact hR _ _ ⟨none, 0, rfl, hS88⟩

noncomputable def cd6 (p : List Nat) : Code := sub (bodyOf Tryz.f6) p
def weirlaw06_sameCond.l0 (a0 : List api_Node) (a1 : List api_Node) (t16 : Int) : Option (Sum Unit Bool) :=
  (if (decide (t16 < (a0.length : Int))) = true then (if 0 ≤ t16 ∧ t16 < (a0.length : Int) then (if 0 ≤ t16 ∧ t16 < (a1.length : Int) then (if (!(decide ((gt a0 t16) = (gt a1 t16)))) = true then some (.inr (false)) else (weirlaw06_sameCond.l0 a0 a1 (IntKind.i64.wrap (t16 + 1)))) else none) else none) else some (.inl ()))
 partial_fixpoint
def weirlaw06_sameCond.f (a0 : List api_Node) (a1 : List api_Node) : Option Bool :=
  (if ((a0.length : Int) != (a1.length : Int)) = true then some (false) else (weirlaw06_sameCond.l0 a0 a1 0 >>= (fun | .inl () => some (true) | .inr e => some e)))
set_option maxHeartbeats 16000000 in
theorem weirlaw06_sameCond.ok (a0 : List api_Node) (a1 : List api_Node) (Aa0 : Option Addr) (ca0 : Nat) (Aa1 : Option Addr) (ca1 : Nat) {w0 : World} {Z : Zm} {fs : List XObj} {w : World} (hS0 : St w0 Z (fs) w) (ha0 : SlZ (flat enc_api_Node) 6 Z Aa0 ca0 a0) (ha1 : SlZ (flat enc_api_Node) 6 Z Aa1 ca1 a1) {q0 : Bool} (hp0 : weirlaw06_sameCond.f a0 a1 = some q0) :
    Calls Tryz.prog 6 #[.slice Aa0 a0.length ca0, .slice Aa1 a1.length ca1] w (fun e w' => e = .returned (.bool q0) ∧ St w0 Z (fs) w') := by
  refine calls_abs ?_; intro R hR
  unfold weirlaw06_sameCond.f at hp0
  refine calls_of_runs (fn := Tryz.f6) (c := cd6 []) Tryz.func6 (by kernel_rfl) (al := [.slice Aa0 a0.length ca0, .slice Aa1 a1.length ca1]) rfl (n := 24) rfl ?_
  refine sx_split 12 (todo' := [.inRegion (opsOf (cd6 [1, 0, 0])) [], .code (cd6 [1, 0, 1]), .code (cd6 [1, 1])]) (us := [(4, .bool false), (6, .slice Aa0 a0.length ca0), (7, .int .i64 (a0.length : Int)), (8, .slice Aa1 a1.length ca1), (9, .int .i64 (a1.length : Int))]) (d := 10) (t := ((a0.length : Int) != (a1.length : Int))) (by kernel_rfl) (fun h1 => ?_) (fun h2 => ?_)
  ·skip
   have hp3 := ite_t hp0 h1
   refine sx_run 6 (todo' := [.code (cd6 [1, 0, 1, 0, 1]), .code (cd6 [1, 1])]) (us := [(4, .bool false)]) (by kernel_rfl) ?_
   refine runs_ret (fn := Tryz.f6) (v := .bool false) Tryz.func6 (by kernel_rfl) ?_
   have hr4 := (Option.some.inj hp3)
   cases hr4
   exact hR _ _ ⟨rfl, hS0⟩
  ·skip
   have hp5 := ite_f hp0 h2
   refine sx_run 10 (todo' := [.code (cd6 [1, 1, 0, 1, 0, 0]), .inLoop (cd6 [1, 1, 0, 1, 0, 0]), .inBlock 0, .code (cd6 [1, 1, 1])]) (us := [(5, .int .i64 0)]) (by kernel_rfl) ?_
   obtain ⟨v6, hv7, hp8⟩ := bind_some' hp5
   have hq11 : ∀ x, Sum.inr x = v6 → x = q0 := by intro x hx; subst hx; simpa using hp8
   have J12 : ∀ (he14 : Sum.inl () = v6) (l13 : List Value) (w9 : World) (hS10 : St w0 Z (fs) w9), Runs Tryz.prog (fx 6) [.code (cd6 [1, 1, 1])] (fill [none, none, none, none, none, none, none, none, none, none, none, none, none, none, none, none, none, none, none, none, none, none, none, none, none, none] l13) w9 R := by
    intro he14 l13 w9 hS10
    subst he14
    try dsimp only at hp8
    refine sx_run 4 (todo' := [.code (cd6 [1, 1, 1, 1])]) (us := [(4, .bool true)]) (by kernel_rfl) ?_
    refine runs_ret (fn := Tryz.f6) (v := .bool true) Tryz.func6 (by kernel_rfl) ?_
    have hr15 := (Option.some.inj hp8)
    cases hr15
    exact hR _ _ ⟨rfl, hS10⟩
   have L25 : ∀ (t16 : Int) (e20 : Sum Unit Bool), weirlaw06_sameCond.l0 a0 a1 t16 = some e20 → e20 = v6 → ∀ (l19 : List Value) (w17 : World) (hS18 : St w0 Z (fs) w17), Runs Tryz.prog (fx 6) [.code (cd6 [1, 1, 0, 1, 0, 0]), .inLoop (cd6 [1, 1, 0, 1, 0, 0]), .inBlock 0, .code (cd6 [1, 1, 1])] (fill [some (.slice Aa0 a0.length ca0), some (.slice Aa1 a1.length ca1), none, none, none, some (.int .i64 t16), none, none, none, none, none, none, none, none, none, none, none, none, none, none, none, none, none, none, none, none] l19) w17 R := by
    refine weirlaw06_sameCond.l0.partial_correctness a0 a1 (fun t16 e20 => e20 = v6 → ∀ (l19 : List Value) (w17 : World) (hS18 : St w0 Z (fs) w17), Runs Tryz.prog (fx 6) [.code (cd6 [1, 1, 0, 1, 0, 0]), .inLoop (cd6 [1, 1, 0, 1, 0, 0]), .inBlock 0, .code (cd6 [1, 1, 1])] (fill [some (.slice Aa0 a0.length ca0), some (.slice Aa1 a1.length ca1), none, none, none, some (.int .i64 t16), none, none, none, none, none, none, none, none, none, none, none, none, none, none, none, none, none, none, none, none] l19) w17 R) ?_
    intro rec24 ih23 t16 e20 hb22 he21 l19 w17 hS18
    have hq26 : ∀ x, Sum.inr x = e20 → x = q0 := fun x hx => hq11 x (hx.trans he21)
    refine sx_split 7 (todo' := [.inRegion (opsOf (cd6 [1, 1, 0, 1, 0, 0, 0, 0])) [], .code (cd6 [1, 1, 0, 1, 0, 0, 0, 1]), .code (cd6 [1, 1, 0, 1, 0, 0, 1]), .inLoop (cd6 [1, 1, 0, 1, 0, 0]), .inBlock 0, .code (cd6 [1, 1, 1])]) (us := [(11, .int .i64 t16), (12, .slice Aa0 a0.length ca0), (13, .int .i64 (a0.length : Int))]) (d := 14) (t := (decide (t16 < (a0.length : Int)))) (by kernel_rfl) (fun h27 => ?_) (fun h28 => ?_)
    ·skip
     have hp29 := ite_t hb22 h27
     refine sx_run 6 (todo' := [.code (cd6 [1, 1, 0, 1, 0, 0, 1, 0, 0, 0]), .code (cd6 [1, 1, 0, 1, 0, 0, 1, 0, 0, 1]), .inBlock 1, .code (cd6 [1, 1, 0, 1, 0, 0, 1, 1]), .inLoop (cd6 [1, 1, 0, 1, 0, 0]), .inBlock 0, .code (cd6 [1, 1, 1])]) (us := []) (by kernel_rfl) ?_
     refine r_quiet hS18 (c := (cd6 [1, 1, 0, 1, 0, 0, 1, 0, 0, 0])) (id := 6) (by kernel_rfl) (by kernel_rfl) (by kernel_rfl) (is := [0, 1, 2, 3, 4, 5, 6, 7, 8]) (by kernel_rfl) ?_
     refine q_run 2 (is' := [2, 3, 4, 5, 6, 7, 8]) (us := [(17, .slice Aa0 a0.length ca0), (18, .int .i64 t16)]) (by kernel_rfl) ?_
     obtain ⟨g30, hp31⟩ := ite_some hp29
     obtain ⟨b32, p33, hA34, hc35⟩ := ha0.atF g30.1 g30.2
     refine q_indexAddr (c := (cd6 [1, 1, 0, 1, 0, 0, 1, 0, 0, 0])) (i := 2) (d := (some 19)) (ty := 0) (t := 26) (e := 53) (n := a0.length) (cp := ca0) (sz := 6) (kk := .i64) (x := (.tmp 17)) (y := (.tmp 18)) (b := b32) (o' := p33) (j := t16) (by kernel_rfl) (by kernel_rfl) (slv (by kernel_rfl) hA34) (by kernel_rfl) (by kernel_rfl) (by kernel_rfl) g30.1 g30.2 ?_
     refine q_load (c := (cd6 [1, 1, 0, 1, 0, 0, 1, 0, 0, 0])) (i := 3) (d := (some 20)) (ty := 53) (t := 53) (x := (.tmp 19)) (p := ⟨b32, p33 + t16.toNat * 6, none⟩) (v := .agg (enc_api_Node (gt a0 t16)).toArray) (by kernel_rfl) (by kernel_rfl) (by kernel_rfl) (fun w hC => (loads_agg (hc35.cells hC) (by kernel_rfl) (by kernel_rfl))) ?_
     refine q_run 2 (is' := [6, 7, 8]) (us := [(21, .slice Aa1 a1.length ca1), (22, .int .i64 t16)]) (by kernel_rfl) ?_
     obtain ⟨g36, hp37⟩ := ite_some hp31
     obtain ⟨b38, p39, hA40, hc41⟩ := ha1.atF g36.1 g36.2
     refine q_indexAddr (c := (cd6 [1, 1, 0, 1, 0, 0, 1, 0, 0, 0])) (i := 6) (d := (some 23)) (ty := 0) (t := 26) (e := 53) (n := a1.length) (cp := ca1) (sz := 6) (kk := .i64) (x := (.tmp 21)) (y := (.tmp 22)) (b := b38) (o' := p39) (j := t16) (by kernel_rfl) (by kernel_rfl) (slv (by kernel_rfl) hA40) (by kernel_rfl) (by kernel_rfl) (by kernel_rfl) g36.1 g36.2 ?_
     refine q_load (c := (cd6 [1, 1, 0, 1, 0, 0, 1, 0, 0, 0])) (i := 7) (d := (some 24)) (ty := 53) (t := 53) (x := (.tmp 23)) (p := ⟨b38, p39 + t16.toNat * 6, none⟩) (v := .agg (enc_api_Node (gt a1 t16)).toArray) (by kernel_rfl) (by kernel_rfl) (by kernel_rfl) (fun w hC => (loads_agg (hc41.cells hC) (by kernel_rfl) (by kernel_rfl))) ?_
     refine q_val (c := (cd6 [1, 1, 0, 1, 0, 0, 1, 0, 0, 0])) (i := 8) (d := (some 25)) (ty := 4) (op := .binOp .neq 53 (.tmp 20) (.tmp 24) 53) (v := .bool (!(decide ((gt a0 t16) = (gt a1 t16))))) (by kernel_rfl) (by kernel_rfl) (fun w hC o ho _ => x_neq_api_Node (by kernel_rfl) (by kernel_rfl) ho) ?_
     refine q_split (!(decide ((gt a0 t16) = (gt a1 t16)))) (fun h42 => ?_) (fun h43 => ?_)
     ·skip
      have hp44 := ite_t hp37 h42
      refine Qs.nil ?_
      intro w45 hS46
      refine sx_run 5 (todo' := [.code (cd6 [1, 1, 0, 1, 0, 0, 1, 0, 0, 1, 0, 1]), .inBlock 1, .code (cd6 [1, 1, 0, 1, 0, 0, 1, 1]), .inLoop (cd6 [1, 1, 0, 1, 0, 0]), .inBlock 0, .code (cd6 [1, 1, 1])]) (us := [(4, .bool false)]) (by kernel_rfl) ?_
      refine runs_ret (fn := Tryz.f6) (v := .bool false) Tryz.func6 (by kernel_rfl) ?_
      have hr47 := (hq26 _ (Option.some.inj hp44))
      cases hr47
      exact hR _ _ ⟨rfl, hS46⟩
     ·skip
      have hp48 := ite_f hp37 h43
      refine Qs.nil ?_
      intro w49 hS50
      refine sx_run 8 (todo' := [.inLoop (cd6 [1, 1, 0, 1, 0, 0]), .inBlock 0, .code (cd6 [1, 1, 1])]) (us := [(15, .int .i64 t16), (16, .int .i64 (IntKind.i64.wrap (t16 + 1))), (5, .int .i64 (IntKind.i64.wrap (t16 + 1)))]) (by kernel_rfl) ?_
      refine sx_run 1 (todo' := [.code (cd6 [1, 1, 0, 1, 0, 0]), .inLoop (cd6 [1, 1, 0, 1, 0, 0]), .inBlock 0, .code (cd6 [1, 1, 1])]) (us := []) (by kernel_rfl) ?_
      refine Runs.fill (m := [some (.slice Aa0 a0.length ca0), some (.slice Aa1 a1.length ca1), none, none, none, some (.int .i64 (IntKind.i64.wrap (t16 + 1))), none, none, none, none, none, none, none, none, none, none, none, none, none, none, none, none, none, none, none, none]) (by kernel_rfl) ?_
      exact ih23 (IntKind.i64.wrap (t16 + 1)) _ hp48 he21 _ _ hS50
    ·skip
     have hp51 := ite_f hb22 h28
     refine sx_run 3 (todo' := [.code (cd6 [1, 1, 1])]) (us := []) (by kernel_rfl) ?_
     refine Runs.fill (m := [none, none, none, none, none, none, none, none, none, none, none, none, none, none, none, none, none, none, none, none, none, none, none, none, none, none]) (by kernel_rfl) ?_
     exact J12 ((Option.some.inj hp51).trans he21) _ _ hS18
   refine Runs.fill (m := [some (.slice Aa0 a0.length ca0), some (.slice Aa1 a1.length ca1), none, none, none, some (.int .i64 0), none, none, none, none, none, none, none, none, none, none, none, none, none, none, none, none, none, none, none, none]) (by kernel_rfl) ?_
   exact L25 0 _ hv7 rfl _ _ hS0

noncomputable def cd7 (p : List Nat) : Code := sub (bodyOf Tryz.f7) p
def weirlaw06_fault.f (a0 : PErr) : Option weirref05_Fault :=
  (((PErr.cas a0 (some (.inr ((⟨0, 0, 0⟩ : weirref05_Fault)))) (fun n95 => some (.inl (.num n95))) (fun n96 n97 n98 => some (.inl (.pos n96 n97 n98)))) : Option (Sum PErr weirref05_Fault)) >>= (fun | .inl t8 => (((PErr.cas t8 (some (.inl .nil)) (fun n58 => some (.inl (.num n58))) (fun n59 n60 n61 => some (.inr ((⟨n59, n60, n61⟩ : weirref05_Fault))))) : Option (Sum PErr weirref05_Fault)) >>= (fun | .inl t29 => (PErr.cas t29 (none) (fun n39 => some ((⟨(-1), 0, n39⟩ : weirref05_Fault))) (fun n40 n41 n42 => none)) | .inr e => some e)) | .inr e => some e))
set_option maxHeartbeats 16000000 in
theorem weirlaw06_fault.ok (a0 : PErr) (va0 : Value) {w0 : World} {Z : Zm} {fs : List XObj} {w : World} (hS0 : St w0 Z (fs) w) (hea0 : RepE 39 40 Z va0 a0) (hE : Env Z) {q0 : weirref05_Fault} (hp0 : weirlaw06_fault.f a0 = some q0) :
    Calls Tryz.prog 7 #[va0] w (fun e w' => e = .returned (.agg (enc_weirref05_Fault q0).toArray) ∧ St w0 Z (fs) w') := by
  refine calls_abs ?_; intro R hR
  unfold weirlaw06_fault.f at hp0
  refine calls_of_runs (fn := Tryz.f7) (c := cd7 []) Tryz.func7 (by kernel_rfl) (al := [va0]) rfl (n := 37) rfl ?_
  refine sx_run 2 (todo' := [.inRegion (opsOf (cd7 [0])) [0], .code (cd7 [1])]) (us := []) (by kernel_rfl) ?_
  refine r_alloc (c := (cd7 [0])) (i := 0) (d := (some 2)) (ty := 0) (z := .agg (enc_weirref05_Fault (⟨0, 0, 0⟩ : weirref05_Fault)).toArray) (t := 32) (cs := enc_weirref05_Fault (⟨0, 0, 0⟩ : weirref05_Fault)) hS0 (by kernel_rfl) (by kernel_rfl) (by kernel_rfl) (by kernel_rfl) ?_
  intro b1 w2 hS3
  refine sx_run 5 (todo' := [.inRegion (opsOf (cd7 [1, 0, 0])) [1], .code (cd7 [1, 0, 1]), .code (cd7 [1, 1])]) (us := [(5, va0)]) (by kernel_rfl) ?_
  obtain ⟨v5, hv6, hp7⟩ := bind_some' hp0
  have hq14 : ∀ x, Sum.inr x = v5 → x = q0 := by intro x hx; subst hx; simpa using hp7
  have J15 : ∀ (t8 : PErr) (he17 : Sum.inl t8 = v5) (l16 : List Value) (v9 : Value) (w12 : World) (hS13 : St w0 Z (xblk b1 32 (enc_weirref05_Fault (⟨0, 0, 0⟩ : weirref05_Fault)) :: fs) w12) (he10 : RepE 39 40 Z v9 t8), Runs Tryz.prog (fx 7) [.code (cd7 [1, 1])] (fill [some (v9), none, some (.pointer (some ⟨b1, 0, none⟩)), none, none, none, none, none, none, none, none, none, none, none, none, none, none, none, none, none, none, none, none, none, none, none, none, none, none, none, none, none, none, none, none, none, none, none] l16) w12 R := by
   intro t8 he17 l16 v9 w12 hS13 he10
   subst he17
   try dsimp only at hp7
   refine sx_run 2 (todo' := [.inRegion (opsOf (cd7 [1, 1, 0])) [0], .code (cd7 [1, 1, 1])]) (us := []) (by kernel_rfl) ?_
   refine r_alloc (c := (cd7 [1, 1, 0])) (i := 0) (d := (some 3)) (ty := 0) (z := .pointer none) (t := 40) (cs := [.pointer none]) hS13 (by kernel_rfl) (by kernel_rfl) (by kernel_rfl) (by kernel_rfl) ?_
   intro b18 w19 hS20
   refine sx_run 3 (todo' := [.inRegion (opsOf (cd7 [1, 1, 1, 0])) [0], .code (cd7 [1, 1, 1, 1])]) (us := []) (by kernel_rfl) ?_
   refine r_alloc (c := (cd7 [1, 1, 1, 0])) (i := 0) (d := (some 4)) (ty := 0) (z := .int .i64 0) (t := 39) (cs := [.int .i64 0]) hS20 (by kernel_rfl) (by kernel_rfl) (by kernel_rfl) (by kernel_rfl) ?_
   intro b22 w23 hS24
   refine sx_run 6 (todo' := [.inRegion (opsOf (cd7 [1, 1, 1, 1, 0, 0])) [2, 3, 4, 5, 6], .code (cd7 [1, 1, 1, 1, 0, 1]), .code (cd7 [1, 1, 1, 1, 1])]) (us := [(8, v9), (9, .iface 55 (.pointer (some ⟨b18, 0, none⟩)))]) (by kernel_rfl) ?_
   obtain ⟨v26, hv27, hp28⟩ := bind_some' hp7
   have hq35 : ∀ x, Sum.inr x = v26 → x = q0 := by intro x hx; subst hx; simpa using hp28
   have J36 : ∀ (t29 : PErr) (he38 : Sum.inl t29 = v26) (l37 : List Value) (v30 : Value) (w33 : World) (hS34 : St w0 Z (xblk b1 32 (enc_weirref05_Fault (⟨0, 0, 0⟩ : weirref05_Fault)) :: xblk b22 39 ([.int .i64 0]) :: fs) w33) (he31 : RepE 39 40 Z v30 t29), Runs Tryz.prog (fx 7) [.code (cd7 [1, 1, 1, 1, 1])] (fill [some (v30), none, some (.pointer (some ⟨b1, 0, none⟩)), none, some (.pointer (some ⟨b22, 0, none⟩)), none, none, none, none, none, none, none, none, none, none, none, none, none, none, none, none, none, none, none, none, none, none, none, none, none, none, none, none, none, none, none, none, none] l37) w33 R := by
    intro t29 he38 l37 v30 w33 hS34 he31
    subst he38
    try dsimp only at hp28
    refine sx_run 5 (todo' := [.inRegion (opsOf (cd7 [1, 1, 1, 1, 1, 0, 0])) [2], .code (cd7 [1, 1, 1, 1, 1, 0, 1]), .code (cd7 [1, 1, 1, 1, 1, 1])]) (us := [(32, v30), (33, .iface 58 (.pointer (some ⟨b22, 0, none⟩)))]) (by kernel_rfl) ?_
    rcases t29 with _ | n39 | ⟨n40, n41, n42⟩
    ·skip
     have hp43 := cas_nil hp28
     have he31 : v30 = .nilIface := he31
     subst he31
     cases hp43
    ·skip
     have hp44 := cas_num hp28
     have he31 : v30 = .iface 39 (.int .i64 n39) := he31
     subst he31
     have hS45 := hS34.pick1
     refine r_call1 (c := (cd7 [1, 1, 1, 1, 1, 0, 0])) (i := 2) (d := (some 34)) (g := 13) (args := #[.iface 39 (.int .i64 n39), .iface 58 (.pointer (some ⟨b22, 0, none⟩))]) (by kernel_rfl) (by kernel_rfl) (by kernel_rfl) (by kernel_rfl) (as_hitB39 n39 hS45 hE) ?_
     rintro _ w46 ⟨rfl, hS47⟩
     refine ⟨.bool true, rfl, ?_⟩
     refine sx_run 4 (todo' := [.inRegion (opsOf (cd7 [1, 1, 1, 1, 1, 0, 1, 0, 0])) [0, 1, 2], .code (cd7 [1, 1, 1, 1, 1, 0, 1, 0, 1]), .code (cd7 [1, 1, 1, 1, 1, 1])]) (us := []) (by kernel_rfl) ?_
     refine r_load (c := (cd7 [1, 1, 1, 1, 1, 0, 1, 0, 0])) (i := 0) (d := (some 35)) (ty := 39) (t := 39) (x := (.tmp 4)) (p := ⟨b22, 0, none⟩) (v := .int .i64 n39) (by kernel_rfl) (by kernel_rfl) (by kernel_rfl) (loads_at 0 (hS47.blk 0 rfl) (by kernel_rfl) (by kernel_rfl)) ?_
     refine sx_run 1 (todo' := [.inRegion (opsOf (cd7 [1, 1, 1, 1, 1, 0, 1, 0, 0])) [2], .code (cd7 [1, 1, 1, 1, 1, 0, 1, 0, 1]), .code (cd7 [1, 1, 1, 1, 1, 1])]) (us := [(36, .agg (enc_weirref05_Fault (⟨(-1), 0, n39⟩ : weirref05_Fault)).toArray)]) (by kernel_rfl) ?_
     have hS48 := hS47.pick1
     refine r_store (c := (cd7 [1, 1, 1, 1, 1, 0, 1, 0, 0])) (i := 2) (d := none) (ty := 0) (t := 32) (x := (.tmp 2)) (y := (.tmp 36)) (b := b1) (o := 0) (e := 32) (cs := enc_weirref05_Fault (⟨0, 0, 0⟩ : weirref05_Fault)) (v := .agg (enc_weirref05_Fault (⟨(-1), 0, n39⟩ : weirref05_Fault)).toArray) (vs := enc_weirref05_Fault (⟨(-1), 0, n39⟩ : weirref05_Fault)) (cs' := enc_weirref05_Fault (⟨(-1), 0, n39⟩ : weirref05_Fault)) hS48 (by kernel_rfl) (by kernel_rfl) (by kernel_rfl) (by kernel_rfl) (by kernel_rfl) (by kernel_rfl) (one_weirref05_Fault _) (Nat.le_of_ble_eq_true (by kernel_rfl)) (by kernel_rfl) ?_
     intro w49 hS50
     refine sx_run 1 (todo' := [.code (cd7 [1, 1, 1, 1, 1, 0, 1, 0, 1]), .code (cd7 [1, 1, 1, 1, 1, 1])]) (us := []) (by kernel_rfl) ?_
     have hS51 := hS50.drop
     have hS52 := hS51.drop
     refine runs_ret (fn := Tryz.f7) (v := .agg (enc_weirref05_Fault (⟨(-1), 0, n39⟩ : weirref05_Fault)).toArray) Tryz.func7 (resl_run (fn := Tryz.f7) (by kernel_rfl) (.cell (t := 2) (ty := 32) (by kernel_rfl) (loads_agg (hS50.blk 0 rfl) (by kernel_rfl) (by kernel_rfl)) .nil)) ?_
     have hr53 := (Option.some.inj hp44)
     cases hr53
     exact hR _ _ ⟨rfl, hS52⟩
    ·skip
     have hp54 := cas_pos hp28
     obtain ⟨b55, he31, hs56⟩ := he31
     subst he31
     cases hp54
   rcases t8 with _ | n58 | ⟨n59, n60, n61⟩
   ·skip
    have hp62 := cas_nil hv27
    have he10 : v9 = .nilIface := he10
    subst he10
    have hS63 := hS24.pick1
    refine r_call1 (c := (cd7 [1, 1, 1, 1, 0, 0])) (i := 2) (d := (some 10)) (g := 13) (args := #[.nilIface, .iface 55 (.pointer (some ⟨b18, 0, none⟩))]) (by kernel_rfl) (by kernel_rfl) (by kernel_rfl) (by kernel_rfl) (as_nilB hS63 hE) ?_
    rintro _ w64 ⟨rfl, hS65⟩
    refine ⟨.bool false, rfl, ?_⟩
    refine sx_run 7 (todo' := [.code (cd7 [1, 1, 1, 1, 1])]) (us := [(11, .bool false), (12, undef), (13, undef), (14, .bool false)]) (by kernel_rfl) ?_
    have hS67 := hS65.drop
    have hS68 := hS67.pick1
    refine Runs.fill (m := [some (.nilIface), none, some (.pointer (some ⟨b1, 0, none⟩)), none, some (.pointer (some ⟨b22, 0, none⟩)), none, none, none, none, none, none, none, none, none, none, none, none, none, none, none, none, none, none, none, none, none, none, none, none, none, none, none, none, none, none, none, none, none]) (by kernel_rfl) ?_
    exact J36 .nil (Option.some.inj hp62) _ .nilIface _ hS68 (RepE.of_nil)
   ·skip
    have hp69 := cas_num hv27
    have he10 : v9 = .iface 39 (.int .i64 n58) := he10
    subst he10
    have hS70 := hS24.pick1
    refine r_call1 (c := (cd7 [1, 1, 1, 1, 0, 0])) (i := 2) (d := (some 10)) (g := 13) (args := #[.iface 39 (.int .i64 n58), .iface 55 (.pointer (some ⟨b18, 0, none⟩))]) (by kernel_rfl) (by kernel_rfl) (by kernel_rfl) (by kernel_rfl) (as_noneB40 n58 hS70 hE) ?_
    rintro _ w71 ⟨rfl, hS72⟩
    refine ⟨.bool false, rfl, ?_⟩
    refine sx_run 7 (todo' := [.code (cd7 [1, 1, 1, 1, 1])]) (us := [(11, .bool false), (12, undef), (13, undef), (14, .bool false)]) (by kernel_rfl) ?_
    have hS74 := hS72.drop
    have hS75 := hS74.pick1
    refine Runs.fill (m := [some (.iface 39 (.int .i64 n58)), none, some (.pointer (some ⟨b1, 0, none⟩)), none, some (.pointer (some ⟨b22, 0, none⟩)), none, none, none, none, none, none, none, none, none, none, none, none, none, none, none, none, none, none, none, none, none, none, none, none, none, none, none, none, none, none, none, none, none]) (by kernel_rfl) ?_
    exact J36 (.num n58) (Option.some.inj hp69) _ (.iface 39 (.int .i64 n58)) _ hS75 (RepE.of_num)
   ·skip
    have hp76 := cas_pos hv27
    obtain ⟨b77, he10, hs78⟩ := he10
    subst he10
    have hS80 := hS24.pick1
    refine r_call1 (c := (cd7 [1, 1, 1, 1, 0, 0])) (i := 2) (d := (some 10)) (g := 13) (args := #[.iface 40 (.pointer (some ⟨b77, 0, none⟩)), .iface 55 (.pointer (some ⟨b18, 0, none⟩))]) (by kernel_rfl) (by kernel_rfl) (by kernel_rfl) (by kernel_rfl) (as_hitB40 ⟨b77, 0, none⟩ hS80 hE) ?_
    rintro _ w81 ⟨rfl, hS82⟩
    refine ⟨.bool true, rfl, ?_⟩
    refine sx_run 1 (todo' := [.inRegion (opsOf (cd7 [1, 1, 1, 1, 0, 0])) [4, 5, 6], .code (cd7 [1, 1, 1, 1, 0, 1]), .code (cd7 [1, 1, 1, 1, 1])]) (us := [(11, .bool true)]) (by kernel_rfl) ?_
    refine r_load (c := (cd7 [1, 1, 1, 1, 0, 0])) (i := 4) (d := (some 12)) (ty := 40) (t := 40) (x := (.tmp 3)) (p := ⟨b18, 0, none⟩) (v := .pointer (some ⟨b77, 0, none⟩)) (by kernel_rfl) (by kernel_rfl) (by kernel_rfl) (loads_at 0 (hS82.blk 0 rfl) (by kernel_rfl) (by kernel_rfl)) ?_
    refine sx_run 7 (todo' := [.inRegion (opsOf (cd7 [1, 1, 1, 1, 0, 1, 0, 0, 0])) [0, 1, 2, 3, 4, 5], .code (cd7 [1, 1, 1, 1, 0, 1, 0, 0, 1]), .code (cd7 [1, 1, 1, 1, 0, 1, 0, 1]), .code (cd7 [1, 1, 1, 1, 1])]) (us := [(13, .bool true), (14, .bool true)]) (by kernel_rfl) ?_
    refine r_load (c := (cd7 [1, 1, 1, 1, 0, 1, 0, 0, 0])) (i := 0) (d := (some 15)) (ty := 40) (t := 40) (x := (.tmp 3)) (p := ⟨b18, 0, none⟩) (v := .pointer (some ⟨b77, 0, none⟩)) (by kernel_rfl) (by kernel_rfl) (by kernel_rfl) (loads_at 0 (hS82.blk 0 rfl) (by kernel_rfl) (by kernel_rfl)) ?_
    refine sx_run 2 (todo' := [.inRegion (opsOf (cd7 [1, 1, 1, 1, 0, 1, 0, 0, 0])) [3, 4, 5], .code (cd7 [1, 1, 1, 1, 0, 1, 0, 0, 1]), .code (cd7 [1, 1, 1, 1, 0, 1, 0, 1]), .code (cd7 [1, 1, 1, 1, 1])]) (us := [(16, .pointer (some ⟨b77, 0, none⟩)), (17, .pointer (some ⟨b77, 2, none⟩))]) (by kernel_rfl) ?_
    refine r_load (c := (cd7 [1, 1, 1, 1, 0, 1, 0, 0, 0])) (i := 3) (d := (some 18)) (ty := 28) (t := 28) (x := (.tmp 17)) (p := ⟨b77, 2, none⟩) (v := .iface 39 (.int .i64 n61)) (by kernel_rfl) (by kernel_rfl) (by kernel_rfl) (loads_at 2 (hs78.cells hS82) (by kernel_rfl) (by kernel_rfl)) ?_
    refine sx_run 1 (todo' := [.inRegion (opsOf (cd7 [1, 1, 1, 1, 0, 1, 0, 0, 0])) [5], .code (cd7 [1, 1, 1, 1, 0, 1, 0, 0, 1]), .code (cd7 [1, 1, 1, 1, 0, 1, 0, 1]), .code (cd7 [1, 1, 1, 1, 1])]) (us := [(19, .iface 58 (.pointer (some ⟨b22, 0, none⟩)))]) (by kernel_rfl) ?_
    have hS83 := hS82.pick1
    refine r_call1 (c := (cd7 [1, 1, 1, 1, 0, 1, 0, 0, 0])) (i := 5) (d := (some 20)) (g := 13) (args := #[.iface 39 (.int .i64 n61), .iface 58 (.pointer (some ⟨b22, 0, none⟩))]) (by kernel_rfl) (by kernel_rfl) (by kernel_rfl) (by kernel_rfl) (as_hitB39 n61 hS83 hE) ?_
    rintro _ w84 ⟨rfl, hS85⟩
    refine ⟨.bool true, rfl, ?_⟩
    refine sx_run 3 (todo' := [.code (cd7 [1, 1, 1, 1, 0, 1, 0, 0, 1, 0, 0]), .code (cd7 [1, 1, 1, 1, 0, 1, 0, 0, 1, 0, 1]), .code (cd7 [1, 1, 1, 1, 0, 1, 0, 1]), .code (cd7 [1, 1, 1, 1, 1])]) (us := []) (by kernel_rfl) ?_
    refine r_drawn3 (C := St w0 Z (xblk b22 39 ([.int .i64 n61]) :: xblk b18 40 ([.pointer (some ⟨b77, 0, none⟩)]) :: xblk b1 32 (enc_weirref05_Fault (⟨0, 0, 0⟩ : weirref05_Fault)) :: fs)) (c := (cd7 [1, 1, 1, 1, 0, 1, 0, 0, 1, 0, 0])) (id := 7) (by kernel_rfl) (by kernel_rfl) 10 (Nat.le_of_ble_eq_true (by kernel_rfl)) (by kernel_rfl) (by kernel_rfl) (by kernel_rfl) (is := [0, 1, 2, 3, 4, 5, 6, 7, 8, 9]) (rest := [10]) (by kernel_rfl) (by kernel_rfl) hS85.drew ?_
    refine q_load (c := (hd (cd7 [1, 1, 1, 1, 0, 1, 0, 0, 1, 0, 0]) 10)) (i := 0) (d := (some 21)) (ty := 40) (t := 40) (x := (.tmp 3)) (p := ⟨b18, 0, none⟩) (v := .pointer (some ⟨b77, 0, none⟩)) (by kernel_rfl) (by kernel_rfl) (by kernel_rfl) (fun w hC => (loads_at 0 (hC.blk 1 rfl) (by kernel_rfl) (by kernel_rfl))) ?_
    refine q_run 2 (is' := [3, 4, 5, 6, 7, 8, 9]) (us := [(22, .pointer (some ⟨b77, 0, none⟩)), (23, .pointer (some ⟨b77, 0, none⟩))]) (by kernel_rfl) ?_
    refine q_load (c := (hd (cd7 [1, 1, 1, 1, 0, 1, 0, 0, 1, 0, 0]) 10)) (i := 3) (d := (some 24)) (ty := 3) (t := 3) (x := (.tmp 23)) (p := ⟨b77, 0, none⟩) (v := .int .i64 n59) (by kernel_rfl) (by kernel_rfl) (by kernel_rfl) (fun w hC => (loads_at 0 (hs78.cells hC) (by kernel_rfl) (by kernel_rfl))) ?_
    refine q_load (c := (hd (cd7 [1, 1, 1, 1, 0, 1, 0, 0, 1, 0, 0]) 10)) (i := 4) (d := (some 25)) (ty := 40) (t := 40) (x := (.tmp 3)) (p := ⟨b18, 0, none⟩) (v := .pointer (some ⟨b77, 0, none⟩)) (by kernel_rfl) (by kernel_rfl) (by kernel_rfl) (fun w hC => (loads_at 0 (hC.blk 1 rfl) (by kernel_rfl) (by kernel_rfl))) ?_
    refine q_run 2 (is' := [7, 8, 9]) (us := [(26, .pointer (some ⟨b77, 0, none⟩)), (27, .pointer (some ⟨b77, 1, none⟩))]) (by kernel_rfl) ?_
    refine q_load (c := (hd (cd7 [1, 1, 1, 1, 0, 1, 0, 0, 1, 0, 0]) 10)) (i := 7) (d := (some 28)) (ty := 3) (t := 3) (x := (.tmp 27)) (p := ⟨b77, 1, none⟩) (v := .int .i64 n60) (by kernel_rfl) (by kernel_rfl) (by kernel_rfl) (fun w hC => (loads_at 1 (hs78.cells hC) (by kernel_rfl) (by kernel_rfl))) ?_
    refine q_load (c := (hd (cd7 [1, 1, 1, 1, 0, 1, 0, 0, 1, 0, 0]) 10)) (i := 8) (d := (some 29)) (ty := 39) (t := 39) (x := (.tmp 4)) (p := ⟨b22, 0, none⟩) (v := .int .i64 n61) (by kernel_rfl) (by kernel_rfl) (by kernel_rfl) (fun w hC => (loads_at 0 (hC.blk 0 rfl) (by kernel_rfl) (by kernel_rfl))) ?_
    refine q_run 1 (is' := []) (us := [(30, .agg (enc_weirref05_Fault (⟨n59, n60, n61⟩ : weirref05_Fault)).toArray)]) (by kernel_rfl) ?_
    refine Qs.nil ?_
    intro w86 hS87
    have hS88 := hS87.pick2
    refine r_store (c := (cd7 [1, 1, 1, 1, 0, 1, 0, 0, 1, 0, 0])) (i := 10) (d := none) (ty := 0) (t := 32) (x := (.tmp 2)) (y := (.tmp 30)) (b := b1) (o := 0) (e := 32) (cs := enc_weirref05_Fault (⟨0, 0, 0⟩ : weirref05_Fault)) (v := .agg (enc_weirref05_Fault (⟨n59, n60, n61⟩ : weirref05_Fault)).toArray) (vs := enc_weirref05_Fault (⟨n59, n60, n61⟩ : weirref05_Fault)) (cs' := enc_weirref05_Fault (⟨n59, n60, n61⟩ : weirref05_Fault)) hS88 (by kernel_rfl) (by kernel_rfl) (by kernel_rfl) (by kernel_rfl) (by kernel_rfl) (by kernel_rfl) (one_weirref05_Fault _) (Nat.le_of_ble_eq_true (by kernel_rfl)) (by kernel_rfl) ?_
    intro w89 hS90
    refine sx_run 1 (todo' := [.code (cd7 [1, 1, 1, 1, 0, 1, 0, 0, 1, 0, 1]), .code (cd7 [1, 1, 1, 1, 0, 1, 0, 1]), .code (cd7 [1, 1, 1, 1, 1])]) (us := []) (by kernel_rfl) ?_
    have hS91 := hS90.drop
    have hS92 := hS91.drop
    have hS93 := hS92.drop
    refine runs_ret (fn := Tryz.f7) (v := .agg (enc_weirref05_Fault (⟨n59, n60, n61⟩ : weirref05_Fault)).toArray) Tryz.func7 (resl_run (fn := Tryz.f7) (by kernel_rfl) (.cell (t := 2) (ty := 32) (by kernel_rfl) (loads_agg (hS90.blk 0 rfl) (by kernel_rfl) (by kernel_rfl)) .nil)) ?_
    have hr94 := (hq35 _ (Option.some.inj hp76))
    cases hr94
    exact hR _ _ ⟨rfl, hS93⟩
  rcases a0 with _ | n95 | ⟨n96, n97, n98⟩
  ·skip
   have hp99 := cas_nil hv6
   have hea0 : va0 = .nilIface := hea0
   subst hea0
   refine sx_run 6 (todo' := [.inRegion (opsOf (cd7 [1, 0, 1, 0, 0])) [1], .code (cd7 [1, 0, 1, 0, 1]), .code (cd7 [1, 1])]) (us := [(6, .bool true), (7, .agg (enc_weirref05_Fault (⟨0, 0, 0⟩ : weirref05_Fault)).toArray)]) (by kernel_rfl) ?_
   refine r_store (c := (cd7 [1, 0, 1, 0, 0])) (i := 1) (d := none) (ty := 0) (t := 32) (x := (.tmp 2)) (y := (.tmp 7)) (b := b1) (o := 0) (e := 32) (cs := enc_weirref05_Fault (⟨0, 0, 0⟩ : weirref05_Fault)) (v := .agg (enc_weirref05_Fault (⟨0, 0, 0⟩ : weirref05_Fault)).toArray) (vs := enc_weirref05_Fault (⟨0, 0, 0⟩ : weirref05_Fault)) (cs' := enc_weirref05_Fault (⟨0, 0, 0⟩ : weirref05_Fault)) hS3 (by kernel_rfl) (by kernel_rfl) (by kernel_rfl) (by kernel_rfl) (by kernel_rfl) (by kernel_rfl) (one_weirref05_Fault _) (Nat.le_of_ble_eq_true (by kernel_rfl)) (by kernel_rfl) ?_
   intro w100 hS101
   refine sx_run 1 (todo' := [.code (cd7 [1, 0, 1, 0, 1]), .code (cd7 [1, 1])]) (us := []) (by kernel_rfl) ?_
   have hS102 := hS101.drop
   refine runs_ret (fn := Tryz.f7) (v := .agg (enc_weirref05_Fault (⟨0, 0, 0⟩ : weirref05_Fault)).toArray) Tryz.func7 (resl_run (fn := Tryz.f7) (by kernel_rfl) (.cell (t := 2) (ty := 32) (by kernel_rfl) (loads_agg (hS101.blk 0 rfl) (by kernel_rfl) (by kernel_rfl)) .nil)) ?_
   have hr103 := (hq14 _ (Option.some.inj hp99))
   cases hr103
   exact hR _ _ ⟨rfl, hS102⟩
  ·skip
   have hp104 := cas_num hv6
   have hea0 : va0 = .iface 39 (.int .i64 n95) := hea0
   subst hea0
   refine sx_run 4 (todo' := [.code (cd7 [1, 1])]) (us := [(6, .bool false)]) (by kernel_rfl) ?_
   refine Runs.fill (m := [some (.iface 39 (.int .i64 n95)), none, some (.pointer (some ⟨b1, 0, none⟩)), none, none, none, none, none, none, none, none, none, none, none, none, none, none, none, none, none, none, none, none, none, none, none, none, none, none, none, none, none, none, none, none, none, none, none]) (by kernel_rfl) ?_
   exact J15 (.num n95) (Option.some.inj hp104) _ (.iface 39 (.int .i64 n95)) _ hS3 (RepE.of_num)
  ·skip
   have hp106 := cas_pos hv6
   obtain ⟨b107, hea0, hs108⟩ := hea0
   subst hea0
   refine sx_run 4 (todo' := [.code (cd7 [1, 1])]) (us := [(6, .bool false)]) (by kernel_rfl) ?_
   refine Runs.fill (m := [some (.iface 40 (.pointer (some ⟨b107, 0, none⟩))), none, some (.pointer (some ⟨b1, 0, none⟩)), none, none, none, none, none, none, none, none, none, none, none, none, none, none, none, none, none, none, none, none, none, none, none, none, none, none, none, none, none, none, none, none, none, none, none]) (by kernel_rfl) ?_
   exact J15 (.pos n96 n97 n98) (Option.some.inj hp106) _ (.iface 40 (.pointer (some ⟨b107, 0, none⟩))) _ hS3 (RepE.of_pos hs108)

noncomputable def cd8 (p : List Nat) : Code := sub (bodyOf Tryz.f8) p
def weirlaw06_spoil.l1 (t19 : List api_Node) (t23 : Int) : Option Unit :=
  (if (decide (t23 < 20)) = true then (if (t19.length + ([(⟨98, 0, 0, (⟨0, (⟨#[]⟩ : ByteArray)⟩ : api_Ref), 0⟩ : api_Node)] : List api_Node).length) * 56 ≤ 140737488355328 then (weirlaw06_spoil.l1 (t19 ++ ([(⟨98, 0, 0, (⟨0, (⟨#[]⟩ : ByteArray)⟩ : api_Ref), 0⟩ : api_Node)] : List api_Node)) (IntKind.i64.wrap (t23 + 1))) else none) else some (()))
 partial_fixpoint
def weirlaw06_spoil.l0 (t52 : Int) (t53 : List api_Node) : Option (List api_Node) :=
  (if (decide (t52 < (t53.length : Int))) = true then (if 0 ≤ t52 ∧ t52 < (t53.length : Int) then (weirlaw06_spoil.l0 (IntKind.i64.wrap (t52 + 1)) (setl t53 t52 (⟨99, 0, 0, (⟨0, (⟨#[]⟩ : ByteArray)⟩ : api_Ref), 0⟩ : api_Node))) else none) else some (t53))
 partial_fixpoint
def weirlaw06_spoil.f (a0 : List api_Node) : Option Unit :=
  (weirlaw06_spoil.l0 0 a0 >>= (fun t4 => (weirlaw06_spoil.l1 t4 0 >>= (fun _ => some (())))))
set_option maxHeartbeats 16000000 in
theorem weirlaw06_spoil.ok (a0 : List api_Node) (Aa0 : Option Addr) (ca0 : Nat) {w0 : World} {Z : Zm} {fs : List XObj} {w : World} (hS0 : St w0 Z (xrow Aa0 ca0 53 6 (a0.flatMap enc_api_Node) :: fs) w) (hp0 : weirlaw06_spoil.f a0 = some ()) :
    Calls Tryz.prog 8 #[.slice Aa0 a0.length ca0] w (fun e w' => e = .returned (.tuple #[]) ∧ St w0 Z (fs) w') := by
  refine calls_abs ?_; intro R hR
  unfold weirlaw06_spoil.f at hp0
  refine calls_of_runs (fn := Tryz.f8) (c := cd8 []) Tryz.func8 (by kernel_rfl) (al := [.slice Aa0 a0.length ca0]) rfl (n := 21) rfl ?_
  refine sx_run 7 (todo' := [.code (cd8 [0, 1, 0, 0]), .inLoop (cd8 [0, 1, 0, 0]), .inBlock 0, .code (cd8 [1])]) (us := [(2, .int .i64 0)]) (by kernel_rfl) ?_
  obtain ⟨v1, hv2, hp3⟩ := bind_some' hp0
  have J7 : ∀ (t4 : List api_Node) (he9 : t4 = v1) (l8 : List Value) (w5 : World) (hS6 : St w0 Z (xrow Aa0 ca0 53 6 (t4.flatMap enc_api_Node) :: fs) w5), Runs Tryz.prog (fx 8) [.code (cd8 [1])] (fill [some (.slice Aa0 t4.length ca0), none, none, none, none, none, none, none, none, none, none, none, none, none, none, none, none, none, none, none, none, none] l8) w5 R := by
   intro t4 he9 l8 w5 hS6
   subst he9
   try dsimp only at hp3
   refine sx_run 6 (todo' := [.code (cd8 [1, 1, 0, 0]), .inLoop (cd8 [1, 1, 0, 0]), .inBlock 2]) (us := [(3, .int .i64 0)]) (by kernel_rfl) ?_
   obtain ⟨v10, hv11, hp12⟩ := bind_some' hp3
   have J15 : ∀ (he17 : () = v10) (l16 : List Value) (w13 : World) (hS14 : St w0 Z (fs) w13), Runs Tryz.prog (fx 8) [] (fill [none, none, none, none, none, none, none, none, none, none, none, none, none, none, none, none, none, none, none, none, none, none] l16) w13 R := by
    intro he17 l16 w13 hS14
    subst he17
    try dsimp only at hp12
    refine runs_end (fn := Tryz.f8) (v := .tuple #[]) Tryz.func8 (by kernel_rfl) ?_
    have hr18 := (Option.some.inj hp12)
    cases hr18
    exact hR _ _ ⟨rfl, hS14⟩
   have L32 : ∀ (t19 : List api_Node) (t23 : Int) (e27 : Unit), weirlaw06_spoil.l1 t19 t23 = some e27 → e27 = v10 → ∀ (l26 : List Value) (A20 : Option Addr) (c21 : Nat) (w24 : World) (hS25 : St w0 Z (xrow A20 c21 53 6 (t19.flatMap enc_api_Node) :: fs) w24), Runs Tryz.prog (fx 8) [.code (cd8 [1, 1, 0, 0]), .inLoop (cd8 [1, 1, 0, 0]), .inBlock 2] (fill [some (.slice A20 t19.length c21), none, none, some (.int .i64 t23), none, none, none, none, none, none, none, none, none, none, none, none, none, none, none, none, none, none] l26) w24 R := by
    refine weirlaw06_spoil.l1.partial_correctness (fun t19 t23 e27 => e27 = v10 → ∀ (l26 : List Value) (A20 : Option Addr) (c21 : Nat) (w24 : World) (hS25 : St w0 Z (xrow A20 c21 53 6 (t19.flatMap enc_api_Node) :: fs) w24), Runs Tryz.prog (fx 8) [.code (cd8 [1, 1, 0, 0]), .inLoop (cd8 [1, 1, 0, 0]), .inBlock 2] (fill [some (.slice A20 t19.length c21), none, none, some (.int .i64 t23), none, none, none, none, none, none, none, none, none, none, none, none, none, none, none, none, none, none] l26) w24 R) ?_
    intro rec31 ih30 t19 t23 e27 hb29 he28 l26 A20 c21 w24 hS25
    refine sx_split 5 (todo' := [.inRegion (opsOf (cd8 [1, 1, 0, 0, 0, 0])) [], .code (cd8 [1, 1, 0, 0, 0, 1]), .code (cd8 [1, 1, 0, 0, 1]), .inLoop (cd8 [1, 1, 0, 0]), .inBlock 2]) (us := [(14, .int .i64 t23)]) (d := 15) (t := (decide (t23 < 20))) (by kernel_rfl) (fun h33 => ?_) (fun h34 => ?_)
    ·skip
     have hp35 := ite_t hb29 h33
     refine sx_run 8 (todo' := [.inRegion (opsOf (cd8 [1, 1, 0, 0, 1, 0, 0])) [2, 3, 4], .inBlock 3, .code (cd8 [1, 1, 0, 0, 1, 1]), .inLoop (cd8 [1, 1, 0, 0]), .inBlock 2]) (us := [(18, .slice A20 t19.length c21), (19, .agg (enc_api_Node (⟨98, 0, 0, (⟨0, (⟨#[]⟩ : ByteArray)⟩ : api_Ref), 0⟩ : api_Node)).toArray)]) (by kernel_rfl) ?_
     refine r_lit (c := (cd8 [1, 1, 0, 0, 1, 0, 0])) (i := 2) (d := (some 20)) (ty := 26) (t := 26) (e := 53) (sz := 6) (n := 1) (parts := #[(0, (.tmp 19))]) (vs := [(0, .agg (enc_api_Node (⟨98, 0, 0, (⟨0, (⟨#[]⟩ : ByteArray)⟩ : api_Ref), 0⟩ : api_Node)).toArray)]) (z := zeroOf Tryz.prog 53) (cs' := ([(⟨98, 0, 0, (⟨0, (⟨#[]⟩ : ByteArray)⟩ : api_Ref), 0⟩ : api_Node)] : List api_Node).flatMap enc_api_Node) hS25 (by kernel_rfl) (by kernel_rfl) (by kernel_rfl) (by kernel_rfl) (by kernel_rfl) (by decide) (by decide) (by kernel_rfl) rfl (Parts.cons (c := enc_api_Node (⟨98, 0, 0, (⟨0, (⟨#[]⟩ : ByteArray)⟩ : api_Ref), 0⟩ : api_Node)) (by kernel_rfl) (len_api_Node _) Parts.nil) rfl ?_
     intro b37 w38 hS39
     have hS40 := hS39.pick1
     obtain ⟨g41, hp42⟩ := ite_some hp35
     refine r_append (c := (cd8 [1, 1, 0, 0, 1, 0, 0])) (i := 3) (d := (some 21)) (ty := 26) (enc := enc_api_Node) (e := 53) (u := 53) (t := 26) (t2 := 26) (sz := 6) (cp := c21) (A := A20) (bytes := 56) (xs := t19) (ys := ([(⟨98, 0, 0, (⟨0, (⟨#[]⟩ : ByteArray)⟩ : api_Ref), 0⟩ : api_Node)] : List api_Node)) (s := (.tmp 18)) (x := (.tmp 20)) (xv := .slice (some ⟨b37, 0, none⟩) ([(⟨98, 0, 0, (⟨0, (⟨#[]⟩ : ByteArray)⟩ : api_Ref), 0⟩ : api_Node)] : List api_Node).length 1) (info := infoOf Tryz.prog 53) (z := zeroOf Tryz.prog 53) (ycs := ([(⟨98, 0, 0, (⟨0, (⟨#[]⟩ : ByteArray)⟩ : api_Ref), 0⟩ : api_Node)] : List api_Node).flatMap enc_api_Node) hS40 (by kernel_rfl) (by kernel_rfl) (by kernel_rfl) (by kernel_rfl) (by kernel_rfl) (.inl (by kernel_rfl)) (by kernel_rfl) (by kernel_rfl) (by kernel_rfl) (by kernel_rfl) (by kernel_rfl) (by omega) len_api_Node one_api_Node (src_row (hS40.row 1 rfl) (by omega) len_api_Node) rfl g41 (by omega) ?_
     intro A43 c44 w45 hS46
     refine sx_run 8 (todo' := [.inLoop (cd8 [1, 1, 0, 0]), .inBlock 2]) (us := [(0, .slice A43 (t19 ++ ([(⟨98, 0, 0, (⟨0, (⟨#[]⟩ : ByteArray)⟩ : api_Ref), 0⟩ : api_Node)] : List api_Node)).length c44), (16, .int .i64 t23), (17, .int .i64 (IntKind.i64.wrap (t23 + 1))), (3, .int .i64 (IntKind.i64.wrap (t23 + 1)))]) (by kernel_rfl) ?_
     have hS48 := hS46.pick1
     have hS49 := hS48.drop
     refine sx_run 1 (todo' := [.code (cd8 [1, 1, 0, 0]), .inLoop (cd8 [1, 1, 0, 0]), .inBlock 2]) (us := []) (by kernel_rfl) ?_
     refine Runs.fill (m := [some (.slice A43 (t19 ++ ([(⟨98, 0, 0, (⟨0, (⟨#[]⟩ : ByteArray)⟩ : api_Ref), 0⟩ : api_Node)] : List api_Node)).length c44), none, none, some (.int .i64 (IntKind.i64.wrap (t23 + 1))), none, none, none, none, none, none, none, none, none, none, none, none, none, none, none, none, none, none]) (by kernel_rfl) ?_
     exact ih30 (t19 ++ ([(⟨98, 0, 0, (⟨0, (⟨#[]⟩ : ByteArray)⟩ : api_Ref), 0⟩ : api_Node)] : List api_Node)) (IntKind.i64.wrap (t23 + 1)) _ hp42 he28 _ A43 c44 _ hS49
    ·skip
     have hp50 := ite_f hb29 h34
     refine sx_run 3 (todo' := []) (us := []) (by kernel_rfl) ?_
     have hS51 := hS25.drop
     refine Runs.fill (m := [none, none, none, none, none, none, none, none, none, none, none, none, none, none, none, none, none, none, none, none, none, none]) (by kernel_rfl) ?_
     exact J15 ((Option.some.inj hp50).trans he28) _ _ hS51
   refine Runs.fill (m := [some (.slice Aa0 t4.length ca0), none, none, some (.int .i64 0), none, none, none, none, none, none, none, none, none, none, none, none, none, none, none, none, none, none]) (by kernel_rfl) ?_
   exact L32 t4 0 _ hv11 rfl _ Aa0 ca0 _ hS6
  have L62 : ∀ (t52 : Int) (t53 : List api_Node) (e57 : (List api_Node)), weirlaw06_spoil.l0 t52 t53 = some e57 → e57 = v1 → ∀ (l56 : List Value) (w54 : World) (hS55 : St w0 Z (xrow Aa0 ca0 53 6 (t53.flatMap enc_api_Node) :: fs) w54), Runs Tryz.prog (fx 8) [.code (cd8 [0, 1, 0, 0]), .inLoop (cd8 [0, 1, 0, 0]), .inBlock 0, .code (cd8 [1])] (fill [some (.slice Aa0 t53.length ca0), none, some (.int .i64 t52), none, none, none, none, none, none, none, none, none, none, none, none, none, none, none, none, none, none, none] l56) w54 R := by
   refine weirlaw06_spoil.l0.partial_correctness (fun t52 t53 e57 => e57 = v1 → ∀ (l56 : List Value) (w54 : World) (hS55 : St w0 Z (xrow Aa0 ca0 53 6 (t53.flatMap enc_api_Node) :: fs) w54), Runs Tryz.prog (fx 8) [.code (cd8 [0, 1, 0, 0]), .inLoop (cd8 [0, 1, 0, 0]), .inBlock 0, .code (cd8 [1])] (fill [some (.slice Aa0 t53.length ca0), none, some (.int .i64 t52), none, none, none, none, none, none, none, none, none, none, none, none, none, none, none, none, none, none, none] l56) w54 R) ?_
   intro rec61 ih60 t52 t53 e57 hb59 he58 l56 w54 hS55
   refine sx_split 7 (todo' := [.inRegion (opsOf (cd8 [0, 1, 0, 0, 0, 0])) [], .code (cd8 [0, 1, 0, 0, 0, 1]), .code (cd8 [0, 1, 0, 0, 1]), .inLoop (cd8 [0, 1, 0, 0]), .inBlock 0, .code (cd8 [1])]) (us := [(4, .int .i64 t52), (5, .slice Aa0 t53.length ca0), (6, .int .i64 (t53.length : Int))]) (d := 7) (t := (decide (t52 < (t53.length : Int)))) (by kernel_rfl) (fun h63 => ?_) (fun h64 => ?_)
   ·skip
    have hp65 := ite_t hb59 h63
    refine sx_run 9 (todo' := [.inRegion (opsOf (cd8 [0, 1, 0, 0, 1, 0, 0])) [3, 4], .inBlock 1, .code (cd8 [0, 1, 0, 0, 1, 1]), .inLoop (cd8 [0, 1, 0, 0]), .inBlock 0, .code (cd8 [1])]) (us := [(10, .slice Aa0 t53.length ca0), (11, .int .i64 t52), (12, .agg (enc_api_Node (⟨99, 0, 0, (⟨0, (⟨#[]⟩ : ByteArray)⟩ : api_Ref), 0⟩ : api_Node)).toArray)]) (by kernel_rfl) ?_
    obtain ⟨g66, hp67⟩ := ite_some hp65
    obtain ⟨b68, p69, hA70, -⟩ := (hS55.row 0 rfl).at_ len_api_Node (by omega) g66.1 g66.2
    refine r_indexAddr (c := (cd8 [0, 1, 0, 0, 1, 0, 0])) (i := 3) (d := (some 13)) (ty := 0) (t := 26) (e := 53) (n := t53.length) (cp := ca0) (sz := 6) (kk := .i64) (x := (.tmp 10)) (y := (.tmp 11)) (b := b68) (o' := p69) (j := t52) (by kernel_rfl) (by kernel_rfl) (slv (by kernel_rfl) hA70) (by kernel_rfl) (by kernel_rfl) (by kernel_rfl) g66.1 g66.2 ?_
    refine r_storeEl (c := (cd8 [0, 1, 0, 0, 1, 0, 0])) (i := 4) (d := none) (ty := 0) (enc := enc_api_Node) (e := 53) (t := 53) (sz := 6) (cp := ca0) (A := Aa0) (xs := t53) (x := (.tmp 13)) (y := (.tmp 12)) (el := gt t53 t52) (el' := (⟨99, 0, 0, (⟨0, (⟨#[]⟩ : ByteArray)⟩ : api_Ref), 0⟩ : api_Node)) (j := t52) (off := 0) (b := b68) (p := p69) (v := .agg (enc_api_Node (⟨99, 0, 0, (⟨0, (⟨#[]⟩ : ByteArray)⟩ : api_Ref), 0⟩ : api_Node)).toArray) (vs := enc_api_Node (⟨99, 0, 0, (⟨0, (⟨#[]⟩ : ByteArray)⟩ : api_Ref), 0⟩ : api_Node)) (ad := ⟨b68, p69 + t52.toNat * 6, none⟩) hS55 (by kernel_rfl) (by kernel_rfl) (by kernel_rfl) (by simp) (by kernel_rfl) hA70 g66 rfl len_api_Node (by kernel_rfl) (by kernel_rfl) (one_api_Node _) (by rw [len_api_Node]; omega) (by rw [len_api_Node]; omega) (by kernel_rfl) ?_
    intro w72 hS73
    refine Runs.fill (m := [some (.slice Aa0 t53.length ca0), none, none, none, none, some (.slice Aa0 t53.length ca0), none, none, none, none, some (.slice Aa0 t53.length ca0), none, none, none, none, none, none, none, none, none, none, none]) (by kernel_rfl) ?_
    refine Runs.refill (m' := [some (.slice Aa0 (setl t53 t52 (⟨99, 0, 0, (⟨0, (⟨#[]⟩ : ByteArray)⟩ : api_Ref), 0⟩ : api_Node)).length ca0), none, none, none, none, some (.slice Aa0 (setl t53 t52 (⟨99, 0, 0, (⟨0, (⟨#[]⟩ : ByteArray)⟩ : api_Ref), 0⟩ : api_Node)).length ca0), none, none, none, none, some (.slice Aa0 (setl t53 t52 (⟨99, 0, 0, (⟨0, (⟨#[]⟩ : ByteArray)⟩ : api_Ref), 0⟩ : api_Node)).length ca0), none, none, none, none, none, none, none, none, none, none, none]) (by simp only [setl_len]) ?_
    refine sx_run 7 (todo' := [.inLoop (cd8 [0, 1, 0, 0]), .inBlock 0, .code (cd8 [1])]) (us := [(8, .int .i64 t52), (9, .int .i64 (IntKind.i64.wrap (t52 + 1))), (2, .int .i64 (IntKind.i64.wrap (t52 + 1)))]) (by kernel_rfl) ?_
    refine sx_run 1 (todo' := [.code (cd8 [0, 1, 0, 0]), .inLoop (cd8 [0, 1, 0, 0]), .inBlock 0, .code (cd8 [1])]) (us := []) (by kernel_rfl) ?_
    refine Runs.fill (m := [some (.slice Aa0 (setl t53 t52 (⟨99, 0, 0, (⟨0, (⟨#[]⟩ : ByteArray)⟩ : api_Ref), 0⟩ : api_Node)).length ca0), none, some (.int .i64 (IntKind.i64.wrap (t52 + 1))), none, none, none, none, none, none, none, none, none, none, none, none, none, none, none, none, none, none, none]) (by kernel_rfl) ?_
    exact ih60 (IntKind.i64.wrap (t52 + 1)) (setl t53 t52 (⟨99, 0, 0, (⟨0, (⟨#[]⟩ : ByteArray)⟩ : api_Ref), 0⟩ : api_Node)) _ hp67 he58 _ _ hS73
   ·skip
    have hp74 := ite_f hb59 h64
    refine sx_run 3 (todo' := [.code (cd8 [1])]) (us := []) (by kernel_rfl) ?_
    refine Runs.fill (m := [some (.slice Aa0 t53.length ca0), none, none, none, none, none, none, none, none, none, none, none, none, none, none, none, none, none, none, none, none, none]) (by kernel_rfl) ?_
    exact J7 t53 ((Option.some.inj hp74).trans he58) _ _ hS55
  refine Runs.fill (m := [some (.slice Aa0 a0.length ca0), none, some (.int .i64 0), none, none, none, none, none, none, none, none, none, none, none, none, none, none, none, none, none, none, none]) (by kernel_rfl) ?_
  exact L62 0 a0 _ hv2 rfl _ _ hS0

noncomputable def cd3 (p : List Nat) : Code := sub (bodyOf Tryz.f3) p
def weirlaw06_CondTakes.l0 (a0 : List api_Token) (t250 : Int) : Option (Sum Unit Bool) :=
  (if (decide (t250 < (a0.length : Int))) = true then (if 0 ≤ t250 ∧ t250 < (((([] : List api_Token) ++ a0) ++ ([(⟨77, (⟨#[]⟩ : ByteArray), 0, 0, 0, 0, 0⟩ : api_Token)] : List api_Token)).length : Int) then (if 0 ≤ t250 ∧ t250 < (a0.length : Int) then (if (!(decide ((gt ((([] : List api_Token) ++ a0) ++ ([(⟨77, (⟨#[]⟩ : ByteArray), 0, 0, 0, 0, 0⟩ : api_Token)] : List api_Token)) t250) = (gt a0 t250)))) = true then some (.inr (false)) else (weirlaw06_CondTakes.l0 a0 (IntKind.i64.wrap (t250 + 1)))) else none) else none) else some (.inl ()))
 partial_fixpoint
def weirlaw06_CondTakes.f (a0 : List api_Token) (a1 : Int) : Option Bool :=
  (if (([] : List api_Token).length + a0.length) * 64 ≤ 140737488355328 then (if ((([] : List api_Token) ++ a0).length + ([(⟨77, (⟨#[]⟩ : ByteArray), 0, 0, 0, 0, 0⟩ : api_Token)] : List api_Token).length) * 64 ≤ 140737488355328 then (if 0 ≤ (a0.length : Int) ∧ (a0.length : Int) ≤ (((([] : List api_Token) ++ a0) ++ ([(⟨77, (⟨#[]⟩ : ByteArray), 0, 0, 0, 0, 0⟩ : api_Token)] : List api_Token)).length : Int) then (cond_Take.f ((((([] : List api_Token) ++ a0) ++ ([(⟨77, (⟨#[]⟩ : ByteArray), 0, 0, 0, 0, 0⟩ : api_Token)] : List api_Token)).take ((a0.length : Int).toNat)).drop 0) a1 >>= (fun (t35, t36, t37) => (if 0 ≤ (a0.length : Int) ∧ (a0.length : Int) ≤ (((([] : List api_Token) ++ a0) ++ ([(⟨77, (⟨#[]⟩ : ByteArray), 0, 0, 0, 0, 0⟩ : api_Token)] : List api_Token)).length : Int) then (cond_Take.f ((((([] : List api_Token) ++ a0) ++ ([(⟨77, (⟨#[]⟩ : ByteArray), 0, 0, 0, 0, 0⟩ : api_Token)] : List api_Token)).take ((a0.length : Int).toNat)).drop 0) a1 >>= (fun (t57, t58, t59) => (weirref06_Take.f a0 a1 >>= (fun (t72, t73, t74) => (weirlaw06_sameCond.f t35 t72 >>= (fun t88 => (if (!t88) = true then some (false) else (weirlaw06_sameCond.f t57 t72 >>= (fun t123 => (if (!t123) = true then some (false) else (if (t36 != t73) = true then some (false) else (weirlaw06_fault.f t37 >>= (fun t171 => (if (!(decide (t171 = t74))) = true then some (false) else (if 0 ≤ (a0.length : Int) ∧ (a0.length : Int) < (((([] : List api_Token) ++ a0) ++ ([(⟨77, (⟨#[]⟩ : ByteArray), 0, 0, 0, 0, 0⟩ : api_Token)] : List api_Token)).length : Int) then (if (((gt ((([] : List api_Token) ++ a0) ++ ([(⟨77, (⟨#[]⟩ : ByteArray), 0, 0, 0, 0, 0⟩ : api_Token)] : List api_Token)) (a0.length : Int)).Kind) != 77) = true then some (false) else (weirlaw06_CondTakes.l0 a0 0 >>= (fun | .inl () => (weirlaw06_spoil.f t35 >>= (fun _ => (weirlaw06_sameCond.f t57 t72 >>= (fun t229 => some (t229))))) | .inr e => some e))) else none))))))))))))))) else none))) else none) else none) else none)
set_option maxHeartbeats 16000000 in
theorem weirlaw06_CondTakes.ok (a0 : List api_Token) (a1 : Int) (Aa0 : Option Addr) (ca0 : Nat) {w0 : World} {Z : Zm} {fs : List XObj} {w : World} (hS0 : St w0 Z (fs) w) (ha0 : SlZ (flat enc_api_Token) 7 Z Aa0 ca0 a0) (hE : Env Z) {q0 : Bool} (hp0 : weirlaw06_CondTakes.f a0 a1 = some q0) :
    Calls Tryz.prog 3 #[.slice Aa0 a0.length ca0, .int .i64 a1] w (fun e w' => e = .returned (.bool q0) ∧ St w0 Z (fs) w') := by
  refine calls_abs ?_; intro R hR
  unfold weirlaw06_CondTakes.f at hp0
  refine calls_of_runs (fn := Tryz.f3) (c := cd3 []) Tryz.func3 (by kernel_rfl) (al := [.slice Aa0 a0.length ca0, .int .i64 a1]) rfl (n := 97) rfl ?_
  refine sx_run 6 (todo' := [.inRegion (opsOf (cd3 [1, 0])) [0, 1, 2, 3, 4, 5, 6], .code (cd3 [1, 1])]) (us := [(4, .bool false)]) (by kernel_rfl) ?_
  refine r_lit0 (c := (cd3 [1, 0])) (i := 0) (d := (some 16)) (ty := 22) (t := 22) (e := 24) (sz := 7) hS0 (by kernel_rfl) (by kernel_rfl) (by kernel_rfl) (by kernel_rfl) ?_
  intro b2 w3 hS4
  refine sx_run 1 (todo' := [.inRegion (opsOf (cd3 [1, 0])) [2, 3, 4, 5, 6], .code (cd3 [1, 1])]) (us := [(17, .slice Aa0 a0.length ca0)]) (by kernel_rfl) ?_
  obtain ⟨g5, hp6⟩ := ite_some hp0
  refine r_append (c := (cd3 [1, 0])) (i := 2) (d := (some 18)) (ty := 22) (enc := enc_api_Token) (e := 24) (u := 24) (t := 22) (t2 := 22) (sz := 7) (cp := 0) (A := (some ⟨b2, 0, none⟩)) (bytes := 64) (xs := ([] : List api_Token)) (ys := a0) (s := (.tmp 16)) (x := (.tmp 17)) (xv := .slice Aa0 a0.length ca0) (info := infoOf Tryz.prog 24) (z := zeroOf Tryz.prog 24) (ycs := a0.flatMap enc_api_Token) hS4 (by kernel_rfl) (by kernel_rfl) (by kernel_rfl) (by kernel_rfl) (by kernel_rfl) (.inl (by kernel_rfl)) (by kernel_rfl) (by kernel_rfl) (by kernel_rfl) (by kernel_rfl) (by kernel_rfl) (by omega) len_api_Token one_api_Token (src_slz hS4 ha0 (by omega) len_api_Token) rfl g5 (by omega) ?_
  intro A7 c8 w9 hS10
  refine sx_run 1 (todo' := [.inRegion (opsOf (cd3 [1, 0])) [4, 5, 6], .code (cd3 [1, 1])]) (us := [(19, .agg (enc_api_Token (⟨77, (⟨#[]⟩ : ByteArray), 0, 0, 0, 0, 0⟩ : api_Token)).toArray)]) (by kernel_rfl) ?_
  refine r_lit (c := (cd3 [1, 0])) (i := 4) (d := (some 20)) (ty := 22) (t := 22) (e := 24) (sz := 7) (n := 1) (parts := #[(0, (.tmp 19))]) (vs := [(0, .agg (enc_api_Token (⟨77, (⟨#[]⟩ : ByteArray), 0, 0, 0, 0, 0⟩ : api_Token)).toArray)]) (z := zeroOf Tryz.prog 24) (cs' := ([(⟨77, (⟨#[]⟩ : ByteArray), 0, 0, 0, 0, 0⟩ : api_Token)] : List api_Token).flatMap enc_api_Token) hS10 (by kernel_rfl) (by kernel_rfl) (by kernel_rfl) (by kernel_rfl) (by kernel_rfl) (by decide) (by decide) (by kernel_rfl) rfl (Parts.cons (c := enc_api_Token (⟨77, (⟨#[]⟩ : ByteArray), 0, 0, 0, 0, 0⟩ : api_Token)) (by kernel_rfl) (len_api_Token _) Parts.nil) rfl ?_
  intro b13 w14 hS15
  have hS16 := hS15.pick1
  obtain ⟨g17, hp18⟩ := ite_some hp6
  refine r_append (c := (cd3 [1, 0])) (i := 5) (d := (some 21)) (ty := 22) (enc := enc_api_Token) (e := 24) (u := 24) (t := 22) (t2 := 22) (sz := 7) (cp := c8) (A := A7) (bytes := 64) (xs := (([] : List api_Token) ++ a0)) (ys := ([(⟨77, (⟨#[]⟩ : ByteArray), 0, 0, 0, 0, 0⟩ : api_Token)] : List api_Token)) (s := (.tmp 18)) (x := (.tmp 20)) (xv := .slice (some ⟨b13, 0, none⟩) ([(⟨77, (⟨#[]⟩ : ByteArray), 0, 0, 0, 0, 0⟩ : api_Token)] : List api_Token).length 1) (info := infoOf Tryz.prog 24) (z := zeroOf Tryz.prog 24) (ycs := ([(⟨77, (⟨#[]⟩ : ByteArray), 0, 0, 0, 0, 0⟩ : api_Token)] : List api_Token).flatMap enc_api_Token) hS16 (by kernel_rfl) (by kernel_rfl) (by kernel_rfl) (by kernel_rfl) (by kernel_rfl) (.inl (by kernel_rfl)) (by kernel_rfl) (by kernel_rfl) (by kernel_rfl) (by kernel_rfl) (by kernel_rfl) (by omega) len_api_Token one_api_Token (src_row (hS16.row 1 rfl) (by omega) len_api_Token) rfl g17 (by omega) ?_
  intro A19 c20 w21 hS22
  refine sx_run 7 (todo' := [.inRegion (opsOf (cd3 [1, 1, 0])) [3, 4, 5, 6, 7, 8, 9, 10, 11, 12], .code (cd3 [1, 1, 1])]) (us := [(5, .slice A19 ((([] : List api_Token) ++ a0) ++ ([(⟨77, (⟨#[]⟩ : ByteArray), 0, 0, 0, 0, 0⟩ : api_Token)] : List api_Token)).length c20), (23, .slice A19 ((([] : List api_Token) ++ a0) ++ ([(⟨77, (⟨#[]⟩ : ByteArray), 0, 0, 0, 0, 0⟩ : api_Token)] : List api_Token)).length c20), (24, .slice Aa0 a0.length ca0), (25, .int .i64 (a0.length : Int))]) (by kernel_rfl) ?_
  obtain ⟨Z24, hz25, hS26, hs27, -⟩ := hS22.lendrow len_api_Token (by omega)
  obtain ⟨g28, hp29⟩ := ite_some hp18
  obtain ⟨A30, c31, hr32, hs34⟩ := cutSlZ hs27 (0) ((a0.length : Int).toNat) (by omega) (by omega)
  refine r_val (c := (cd3 [1, 1, 0])) (i := 3) (d := (some 26)) (ty := 22) (op := .slice 22 (.tmp 23) none (some (.tmp 25)) none) (v := .slice A30 ((((([] : List api_Token) ++ a0) ++ ([(⟨77, (⟨#[]⟩ : ByteArray), 0, 0, 0, 0, 0⟩ : api_Token)] : List api_Token)).take ((a0.length : Int).toNat)).drop 0).length c31) (by kernel_rfl) (by kernel_rfl) (fun o ho _ => x_cutSl_ns (e := 24) (sz := 7) (A := A19) (n := ((([] : List api_Token) ++ a0) ++ ([(⟨77, (⟨#[]⟩ : ByteArray), 0, 0, 0, 0, 0⟩ : api_Token)] : List api_Token)).length) (c := c20) (k := .i64) (by kernel_rfl) (by kernel_rfl) (by kernel_rfl) (by kernel_rfl) g28 hs27.cap hr32 ho) ?_
  refine sx_run 1 (todo' := [.inRegion (opsOf (cd3 [1, 1, 0])) [5, 6, 7, 8, 9, 10, 11, 12], .code (cd3 [1, 1, 1])]) (us := [(27, .int .i64 a1)]) (by kernel_rfl) ?_
  obtain ⟨⟨t35, t36, t37⟩, hr41, hp42⟩ := bind_some' hp29
  try dsimp only at hp42
  refine r_call1 (c := (cd3 [1, 1, 0])) (i := 5) (d := (some 28)) (g := 4) (args := #[.slice A30 ((((([] : List api_Token) ++ a0) ++ ([(⟨77, (⟨#[]⟩ : ByteArray), 0, 0, 0, 0, 0⟩ : api_Token)] : List api_Token)).take ((a0.length : Int).toNat)).drop 0).length c31, .int .i64 a1]) (by kernel_rfl) (by kernel_rfl) (by kernel_rfl) (by kernel_rfl) (cond_Take.ok ((((([] : List api_Token) ++ a0) ++ ([(⟨77, (⟨#[]⟩ : ByteArray), 0, 0, 0, 0, 0⟩ : api_Token)] : List api_Token)).take ((a0.length : Int).toNat)).drop 0) a1 A30 c31 hS26 hs34 (hE.up hz25) hr41) ?_
  rintro _ w45 ⟨Q38, Q39, Q40, Z47, hz48, rfl, hS46, hs49⟩
  refine ⟨.tuple #[.slice Q38 t35.length Q39, .int .i64 t36, Q40], rfl, ?_⟩
  refine sx_run 13 (todo' := [.inRegion (opsOf (cd3 [1, 1, 1, 0])) [3, 4, 5, 6, 7, 8, 9, 10, 11, 12], .code (cd3 [1, 1, 1, 1])]) (us := [(22, .tuple #[.slice Q38 t35.length Q39, .int .i64 t36, Q40]), (29, .slice Q38 t35.length Q39), (30, .int .i64 t36), (31, Q40), (6, .slice Q38 t35.length Q39), (7, .int .i64 t36), (8, Q40), (33, .slice A19 ((([] : List api_Token) ++ a0) ++ ([(⟨77, (⟨#[]⟩ : ByteArray), 0, 0, 0, 0, 0⟩ : api_Token)] : List api_Token)).length c20), (34, .slice Aa0 a0.length ca0), (35, .int .i64 (a0.length : Int))]) (by kernel_rfl) ?_
  obtain ⟨g50, hp51⟩ := ite_some hp42
  obtain ⟨A52, c53, hr54, hs56⟩ := cutSlZ hs27 (0) ((a0.length : Int).toNat) (by omega) (by omega)
  refine r_val (c := (cd3 [1, 1, 1, 0])) (i := 3) (d := (some 36)) (ty := 22) (op := .slice 22 (.tmp 33) none (some (.tmp 35)) none) (v := .slice A52 ((((([] : List api_Token) ++ a0) ++ ([(⟨77, (⟨#[]⟩ : ByteArray), 0, 0, 0, 0, 0⟩ : api_Token)] : List api_Token)).take ((a0.length : Int).toNat)).drop 0).length c53) (by kernel_rfl) (by kernel_rfl) (fun o ho _ => x_cutSl_ns (e := 24) (sz := 7) (A := A19) (n := ((([] : List api_Token) ++ a0) ++ ([(⟨77, (⟨#[]⟩ : ByteArray), 0, 0, 0, 0, 0⟩ : api_Token)] : List api_Token)).length) (c := c20) (k := .i64) (by kernel_rfl) (by kernel_rfl) (by kernel_rfl) (by kernel_rfl) g50 hs27.cap hr54 ho) ?_
  refine sx_run 1 (todo' := [.inRegion (opsOf (cd3 [1, 1, 1, 0])) [5, 6, 7, 8, 9, 10, 11, 12], .code (cd3 [1, 1, 1, 1])]) (us := [(37, .int .i64 a1)]) (by kernel_rfl) ?_
  obtain ⟨⟨t57, t58, t59⟩, hr63, hp64⟩ := bind_some' hp51
  try dsimp only at hp64
  refine r_call1 (c := (cd3 [1, 1, 1, 0])) (i := 5) (d := (some 38)) (g := 4) (args := #[.slice A52 ((((([] : List api_Token) ++ a0) ++ ([(⟨77, (⟨#[]⟩ : ByteArray), 0, 0, 0, 0, 0⟩ : api_Token)] : List api_Token)).take ((a0.length : Int).toNat)).drop 0).length c53, .int .i64 a1]) (by kernel_rfl) (by kernel_rfl) (by kernel_rfl) (by kernel_rfl) (cond_Take.ok ((((([] : List api_Token) ++ a0) ++ ([(⟨77, (⟨#[]⟩ : ByteArray), 0, 0, 0, 0, 0⟩ : api_Token)] : List api_Token)).take ((a0.length : Int).toNat)).drop 0) a1 A52 c53 hS46 (hs56.up hz48) (hE.up (Zm.Le.trans hz25 hz48)) hr63) ?_
  rintro _ w67 ⟨Q60, Q61, Q62, Z69, hz70, rfl, hS68, hs71⟩
  refine ⟨.tuple #[.slice Q60 t57.length Q61, .int .i64 t58, Q62], rfl, ?_⟩
  refine sx_run 12 (todo' := [.inRegion (opsOf (cd3 [1, 1, 1, 1, 0])) [2, 3, 4, 5, 6, 7, 8, 9, 10], .code (cd3 [1, 1, 1, 1, 1])]) (us := [(32, .tuple #[.slice Q60 t57.length Q61, .int .i64 t58, Q62]), (39, .slice Q60 t57.length Q61), (40, .int .i64 t58), (41, Q62), (9, .slice Q60 t57.length Q61), (10, .int .i64 t58), (11, Q62), (43, .slice Aa0 a0.length ca0), (44, .int .i64 a1)]) (by kernel_rfl) ?_
  obtain ⟨⟨t72, t73, t74⟩, hr77, hp78⟩ := bind_some' hp64
  try dsimp only at hp78
  refine r_call1 (c := (cd3 [1, 1, 1, 1, 0])) (i := 2) (d := (some 45)) (g := 5) (args := #[.slice Aa0 a0.length ca0, .int .i64 a1]) (by kernel_rfl) (by kernel_rfl) (by kernel_rfl) (by kernel_rfl) (weirref06_Take.ok a0 a1 Aa0 ca0 hS68 (ha0.up (Zm.Le.trans hz25 (Zm.Le.trans hz48 hz70))) hr77) ?_
  rintro _ w80 ⟨Q75, Q76, rfl, hS81⟩
  refine ⟨.tuple #[.slice Q75 t72.length Q76, .int .i64 t73, .agg (enc_weirref05_Fault t74).toArray], rfl, ?_⟩
  refine sx_run 4 (todo' := [.inRegion (opsOf (cd3 [1, 1, 1, 1, 0])) [7, 8, 9, 10], .code (cd3 [1, 1, 1, 1, 1])]) (us := [(42, .tuple #[.slice Q75 t72.length Q76, .int .i64 t73, .agg (enc_weirref05_Fault t74).toArray]), (46, .slice Q75 t72.length Q76), (47, .int .i64 t73), (48, .agg (enc_weirref05_Fault t74).toArray)]) (by kernel_rfl) ?_
  refine r_alloc (c := (cd3 [1, 1, 1, 1, 0])) (i := 7) (d := (some 14)) (ty := 0) (z := .agg (enc_weirref05_Fault (⟨0, 0, 0⟩ : weirref05_Fault)).toArray) (t := 32) (cs := enc_weirref05_Fault (⟨0, 0, 0⟩ : weirref05_Fault)) hS81 (by kernel_rfl) (by kernel_rfl) (by kernel_rfl) (by kernel_rfl) ?_
  intro b82 w83 hS84
  refine sx_run 2 (todo' := [.inRegion (opsOf (cd3 [1, 1, 1, 1, 0])) [10], .code (cd3 [1, 1, 1, 1, 1])]) (us := [(12, .slice Q75 t72.length Q76), (13, .int .i64 t73)]) (by kernel_rfl) ?_
  refine r_store (c := (cd3 [1, 1, 1, 1, 0])) (i := 10) (d := none) (ty := 0) (t := 32) (x := (.tmp 14)) (y := (.tmp 48)) (b := b82) (o := 0) (e := 32) (cs := enc_weirref05_Fault (⟨0, 0, 0⟩ : weirref05_Fault)) (v := .agg (enc_weirref05_Fault t74).toArray) (vs := enc_weirref05_Fault t74) (cs' := enc_weirref05_Fault t74) hS84 (by kernel_rfl) (by kernel_rfl) (by kernel_rfl) (by kernel_rfl) (by kernel_rfl) (by kernel_rfl) (one_weirref05_Fault _) (Nat.le_of_ble_eq_true (by kernel_rfl)) (by kernel_rfl) ?_
  intro w86 hS87
  refine sx_run 3 (todo' := [.code (cd3 [1, 1, 1, 1, 1, 0, 0]), .code (cd3 [1, 1, 1, 1, 1, 0, 1]), .code (cd3 [1, 1, 1, 1, 1, 1])]) (us := []) (by kernel_rfl) ?_
  refine r_quiet hS87 (c := (cd3 [1, 1, 1, 1, 1, 0, 0])) (id := 5) (by kernel_rfl) (by kernel_rfl) (by kernel_rfl) (is := [0, 1, 2, 3, 4, 5, 6, 7, 8, 9, 10, 11, 12, 13, 14, 15, 16, 17, 18, 19, 20, 21, 22, 23, 24, 25, 26, 27, 28, 29]) (by kernel_rfl) ?_
  refine q_run 2 (is' := [2, 3, 4, 5, 6, 7, 8, 9, 10, 11, 12, 13, 14, 15, 16, 17, 18, 19, 20, 21, 22, 23, 24, 25, 26, 27, 28, 29]) (us := [(49, .slice Q38 t35.length Q39), (50, .slice Q75 t72.length Q76)]) (by kernel_rfl) ?_
  obtain ⟨t88, hr89, hp90⟩ := bind_some' hp78
  refine q_call1 (c := (cd3 [1, 1, 1, 1, 1, 0, 0])) (i := 2) (d := (some 51)) (v := .bool t88) (g := 6) (args := #[.slice Q38 t35.length Q39, .slice Q75 t72.length Q76]) (by kernel_rfl) (by kernel_rfl) (by kernel_rfl) (by kernel_rfl) (fun w hC => by
   have hS91 := hC.pick3
   obtain ⟨Z92, hz93, hS94, hs95, hb96⟩ := hS91.lendrow len_api_Node (by omega)
   have hS97 := hS94.pick1
   obtain ⟨Z98, hz99, hS100, hs101, hb102⟩ := hS97.lendrow len_api_Node (by omega)
   refine (weirlaw06_sameCond.ok t35 t72 Q38 Q39 Q75 Q76 hS100 (hs95.up hz99) hs101 hr89).mono ?_
   rintro e w2 ⟨rfl, h2⟩
   have hS103 := hb102 _ _ h2
   have hS104 := hb96 _ _ hS103
   have hS105 := hS104.pick4
   have hS106 := hS105.pick1
   have hS107 := hS106.pick4
   have hS108 := hS107.pick3
   have hS109 := hS108.pick4
   exact ⟨rfl, hS109⟩) ?_
  refine q_splitr 1 (is' := [4, 5, 6, 7, 8, 9, 10, 11, 12, 13, 14, 15, 16, 17, 18, 19, 20, 21, 22, 23, 24, 25, 26, 27, 28, 29]) (us := []) (d := 52) (t := (!t88)) (by kernel_rfl) (fun h110 => ?_) (fun h111 => ?_)
  ·skip
   have hp112 := ite_t hp90 h110
   refine q_run 26 (is' := []) (us := [(53, .bool true), (54, undef), (55, undef), (56, undef), (57, undef), (58, .bool true), (59, .bool true), (60, undef), (61, undef), (62, undef), (63, .bool true), (64, .bool true), (65, undef), (66, undef), (67, undef), (68, undef), (69, .bool true), (70, .bool true), (71, undef), (72, undef), (73, undef), (74, undef), (75, undef), (76, undef), (77, undef), (78, .bool true)]) (by kernel_rfl) ?_
   refine Qs.nil ?_
   intro w113 hS114
   refine sx_run 5 (todo' := [.code (cd3 [1, 1, 1, 1, 1, 0, 1, 0, 1]), .code (cd3 [1, 1, 1, 1, 1, 1])]) (us := [(4, .bool false)]) (by kernel_rfl) ?_
   have hS115 := hS114.drop
   have hS116 := hS115.drop
   have hS117 := hS116.drop
   have hS118 := hS117.drop
   have hS119 := hS118.drop
   have hS120 := hS119.less (Zm.Le.trans hz25 (Zm.Le.trans hz48 hz70))
   refine runs_ret (fn := Tryz.f3) (v := .bool false) Tryz.func3 (by kernel_rfl) ?_
   have hr121 := (Option.some.inj hp112)
   cases hr121
   exact hR _ _ ⟨rfl, hS120⟩
  ·skip
   have hp122 := ite_f hp90 h111
   refine q_run 3 (is' := [7, 8, 9, 10, 11, 12, 13, 14, 15, 16, 17, 18, 19, 20, 21, 22, 23, 24, 25, 26, 27, 28, 29]) (us := [(53, .bool false), (54, .slice Q60 t57.length Q61), (55, .slice Q75 t72.length Q76)]) (by kernel_rfl) ?_
   obtain ⟨t123, hr124, hp125⟩ := bind_some' hp122
   refine q_call1 (c := (cd3 [1, 1, 1, 1, 1, 0, 0])) (i := 7) (d := (some 56)) (v := .bool t123) (g := 6) (args := #[.slice Q60 t57.length Q61, .slice Q75 t72.length Q76]) (by kernel_rfl) (by kernel_rfl) (by kernel_rfl) (by kernel_rfl) (fun w hC => by
    have hS126 := hC.pick2
    obtain ⟨Z127, hz128, hS129, hs130, hb131⟩ := hS126.lendrow len_api_Node (by omega)
    have hS132 := hS129.pick1
    obtain ⟨Z133, hz134, hS135, hs136, hb137⟩ := hS132.lendrow len_api_Node (by omega)
    refine (weirlaw06_sameCond.ok t57 t72 Q60 Q61 Q75 Q76 hS135 (hs130.up hz134) hs136 hr124).mono ?_
    rintro e w2 ⟨rfl, h2⟩
    have hS138 := hb137 _ _ h2
    have hS139 := hb131 _ _ hS138
    have hS140 := hS139.pick4
    have hS141 := hS140.pick4
    have hS142 := hS141.pick2
    have hS143 := hS142.pick3
    have hS144 := hS143.pick4
    exact ⟨rfl, hS144⟩) ?_
   refine q_splitr 1 (is' := [9, 10, 11, 12, 13, 14, 15, 16, 17, 18, 19, 20, 21, 22, 23, 24, 25, 26, 27, 28, 29]) (us := []) (d := 57) (t := (!t123)) (by kernel_rfl) (fun h145 => ?_) (fun h146 => ?_)
   ·skip
    have hp147 := ite_t hp125 h145
    refine q_run 21 (is' := []) (us := [(58, .bool true), (59, .bool true), (60, undef), (61, undef), (62, undef), (63, .bool true), (64, .bool true), (65, undef), (66, undef), (67, undef), (68, undef), (69, .bool true), (70, .bool true), (71, undef), (72, undef), (73, undef), (74, undef), (75, undef), (76, undef), (77, undef), (78, .bool true)]) (by kernel_rfl) ?_
    refine Qs.nil ?_
    intro w148 hS149
    refine sx_run 5 (todo' := [.code (cd3 [1, 1, 1, 1, 1, 0, 1, 0, 1]), .code (cd3 [1, 1, 1, 1, 1, 1])]) (us := [(4, .bool false)]) (by kernel_rfl) ?_
    have hS150 := hS149.drop
    have hS151 := hS150.drop
    have hS152 := hS151.drop
    have hS153 := hS152.drop
    have hS154 := hS153.drop
    have hS155 := hS154.less (Zm.Le.trans hz25 (Zm.Le.trans hz48 hz70))
    refine runs_ret (fn := Tryz.f3) (v := .bool false) Tryz.func3 (by kernel_rfl) ?_
    have hr156 := (Option.some.inj hp147)
    cases hr156
    exact hR _ _ ⟨rfl, hS155⟩
   ·skip
    have hp157 := ite_f hp125 h146
    refine q_splitr 5 (is' := [14, 15, 16, 17, 18, 19, 20, 21, 22, 23, 24, 25, 26, 27, 28, 29]) (us := [(58, .bool false), (59, .bool false), (60, .int .i64 t36), (61, .int .i64 t73)]) (d := 62) (t := (t36 != t73)) (by kernel_rfl) (fun h158 => ?_) (fun h159 => ?_)
    ·skip
     have hp160 := ite_t hp157 h158
     refine q_run 16 (is' := []) (us := [(63, .bool true), (64, .bool true), (65, undef), (66, undef), (67, undef), (68, undef), (69, .bool true), (70, .bool true), (71, undef), (72, undef), (73, undef), (74, undef), (75, undef), (76, undef), (77, undef), (78, .bool true)]) (by kernel_rfl) ?_
     refine Qs.nil ?_
     intro w161 hS162
     refine sx_run 5 (todo' := [.code (cd3 [1, 1, 1, 1, 1, 0, 1, 0, 1]), .code (cd3 [1, 1, 1, 1, 1, 1])]) (us := [(4, .bool false)]) (by kernel_rfl) ?_
     have hS163 := hS162.drop
     have hS164 := hS163.drop
     have hS165 := hS164.drop
     have hS166 := hS165.drop
     have hS167 := hS166.drop
     have hS168 := hS167.less (Zm.Le.trans hz25 (Zm.Le.trans hz48 hz70))
     refine runs_ret (fn := Tryz.f3) (v := .bool false) Tryz.func3 (by kernel_rfl) ?_
     have hr169 := (Option.some.inj hp160)
     cases hr169
     exact hR _ _ ⟨rfl, hS168⟩
    ·skip
     have hp170 := ite_f hp157 h159
     refine q_run 3 (is' := [17, 18, 19, 20, 21, 22, 23, 24, 25, 26, 27, 28, 29]) (us := [(63, .bool false), (64, .bool false), (65, Q40)]) (by kernel_rfl) ?_
     obtain ⟨t171, hr172, hp173⟩ := bind_some' hp170
     refine q_call1 (c := (cd3 [1, 1, 1, 1, 1, 0, 0])) (i := 17) (d := (some 66)) (v := .agg (enc_weirref05_Fault t171).toArray) (g := 7) (args := #[Q40]) (by kernel_rfl) (by kernel_rfl) (by kernel_rfl) (by kernel_rfl) (fun w hC => by
      refine (weirlaw06_fault.ok t37 Q40 hC (hs49.mono hz70) (hE.up (Zm.Le.trans hz25 (Zm.Le.trans hz48 hz70))) hr172).mono ?_
      rintro e w2 ⟨rfl, h2⟩
      have hS174 := h2.pick4
      have hS175 := hS174.pick4
      have hS176 := hS175.pick4
      have hS177 := hS176.pick4
      have hS178 := hS177.pick4
      exact ⟨rfl, hS178⟩) ?_
     refine q_load (c := (cd3 [1, 1, 1, 1, 1, 0, 0])) (i := 18) (d := (some 67)) (ty := 32) (t := 32) (x := (.tmp 14)) (p := ⟨b82, 0, none⟩) (v := .agg (enc_weirref05_Fault t74).toArray) (by kernel_rfl) (by kernel_rfl) (by kernel_rfl) (fun w hC => (loads_agg (hC.blk 0 rfl) (by kernel_rfl) (by kernel_rfl))) ?_
     refine q_val (c := (cd3 [1, 1, 1, 1, 1, 0, 0])) (i := 19) (d := (some 68)) (ty := 4) (op := .binOp .neq 32 (.tmp 66) (.tmp 67) 32) (v := .bool (!(decide (t171 = t74)))) (by kernel_rfl) (by kernel_rfl) (fun w hC o ho _ => x_neq_weirref05_Fault (by kernel_rfl) (by kernel_rfl) ho) ?_
     refine q_split (!(decide (t171 = t74))) (fun h179 => ?_) (fun h180 => ?_)
     ·skip
      have hp181 := ite_t hp173 h179
      refine q_run 10 (is' := []) (us := [(69, .bool true), (70, .bool true), (71, undef), (72, undef), (73, undef), (74, undef), (75, undef), (76, undef), (77, undef), (78, .bool true)]) (by kernel_rfl) ?_
      refine Qs.nil ?_
      intro w182 hS183
      refine sx_run 5 (todo' := [.code (cd3 [1, 1, 1, 1, 1, 0, 1, 0, 1]), .code (cd3 [1, 1, 1, 1, 1, 1])]) (us := [(4, .bool false)]) (by kernel_rfl) ?_
      have hS184 := hS183.drop
      have hS185 := hS184.drop
      have hS186 := hS185.drop
      have hS187 := hS186.drop
      have hS188 := hS187.drop
      have hS189 := hS188.less (Zm.Le.trans hz25 (Zm.Le.trans hz48 hz70))
      refine runs_ret (fn := Tryz.f3) (v := .bool false) Tryz.func3 (by kernel_rfl) ?_
      have hr190 := (Option.some.inj hp181)
      cases hr190
      exact hR _ _ ⟨rfl, hS189⟩
     ·skip
      have hp191 := ite_f hp173 h180
      refine q_run 5 (is' := [25, 26, 27, 28, 29]) (us := [(69, .bool false), (70, .bool false), (71, .slice A19 ((([] : List api_Token) ++ a0) ++ ([(⟨77, (⟨#[]⟩ : ByteArray), 0, 0, 0, 0, 0⟩ : api_Token)] : List api_Token)).length c20), (72, .slice Aa0 a0.length ca0), (73, .int .i64 (a0.length : Int))]) (by kernel_rfl) ?_
      obtain ⟨g192, hp193⟩ := ite_some hp191
      obtain ⟨b194, p195, hA196, hc197⟩ := hs27.atF g192.1 g192.2
      refine q_indexAddr (c := (cd3 [1, 1, 1, 1, 1, 0, 0])) (i := 25) (d := (some 74)) (ty := 0) (t := 22) (e := 24) (n := ((([] : List api_Token) ++ a0) ++ ([(⟨77, (⟨#[]⟩ : ByteArray), 0, 0, 0, 0, 0⟩ : api_Token)] : List api_Token)).length) (cp := c20) (sz := 7) (kk := .i64) (x := (.tmp 71)) (y := (.tmp 73)) (b := b194) (o' := p195) (j := (a0.length : Int)) (by kernel_rfl) (by kernel_rfl) (slv (by kernel_rfl) hA196) (by kernel_rfl) (by kernel_rfl) (by kernel_rfl) g192.1 g192.2 ?_
      refine q_run 1 (is' := [27, 28, 29]) (us := [(75, .pointer (some ⟨b194, p195 + (a0.length : Int).toNat * 7, none⟩))]) (by kernel_rfl) ?_
      refine q_load (c := (cd3 [1, 1, 1, 1, 1, 0, 0])) (i := 27) (d := (some 76)) (ty := 3) (t := 3) (x := (.tmp 75)) (p := ⟨b194, p195 + (a0.length : Int).toNat * 7, none⟩) (v := .int .i64 ((gt ((([] : List api_Token) ++ a0) ++ ([(⟨77, (⟨#[]⟩ : ByteArray), 0, 0, 0, 0, 0⟩ : api_Token)] : List api_Token)) (a0.length : Int)).Kind)) (by kernel_rfl) (by kernel_rfl) (by kernel_rfl) (fun w hC => (loads_at 0 ((hc197.mono (Zm.Le.trans hz48 hz70)).cells hC) (by kernel_rfl) (by kernel_rfl))) ?_
      refine q_splitr 1 (is' := [29]) (us := []) (d := 77) (t := (((gt ((([] : List api_Token) ++ a0) ++ ([(⟨77, (⟨#[]⟩ : ByteArray), 0, 0, 0, 0, 0⟩ : api_Token)] : List api_Token)) (a0.length : Int)).Kind) != 77)) (by kernel_rfl) (fun h198 => ?_) (fun h199 => ?_)
      ·skip
       have hp200 := ite_t hp193 h198
       refine q_run 1 (is' := []) (us := [(78, .bool true)]) (by kernel_rfl) ?_
       refine Qs.nil ?_
       intro w201 hS202
       refine sx_run 5 (todo' := [.code (cd3 [1, 1, 1, 1, 1, 0, 1, 0, 1]), .code (cd3 [1, 1, 1, 1, 1, 1])]) (us := [(4, .bool false)]) (by kernel_rfl) ?_
       have hS203 := hS202.drop
       have hS204 := hS203.drop
       have hS205 := hS204.drop
       have hS206 := hS205.drop
       have hS207 := hS206.drop
       have hS208 := hS207.less (Zm.Le.trans hz25 (Zm.Le.trans hz48 hz70))
       refine runs_ret (fn := Tryz.f3) (v := .bool false) Tryz.func3 (by kernel_rfl) ?_
       have hr209 := (Option.some.inj hp200)
       cases hr209
       exact hR _ _ ⟨rfl, hS208⟩
      ·skip
       have hp210 := ite_f hp193 h199
       refine q_run 1 (is' := []) (us := [(78, .bool false)]) (by kernel_rfl) ?_
       refine Qs.nil ?_
       intro w211 hS212
       refine sx_run 9 (todo' := [.code (cd3 [1, 1, 1, 1, 1, 1, 0, 1, 0, 0]), .inLoop (cd3 [1, 1, 1, 1, 1, 1, 0, 1, 0, 0]), .inBlock 0, .code (cd3 [1, 1, 1, 1, 1, 1, 1])]) (us := [(15, .int .i64 0)]) (by kernel_rfl) ?_
       have hS213 := hS212.drop
       have hS214 := hS213.pick3
       have hS215 := hS214.drop
       obtain ⟨v216, hv217, hp218⟩ := bind_some' hp210
       have hq221 : ∀ x, Sum.inr x = v216 → x = q0 := by intro x hx; subst hx; simpa using hp218
       have J222 : ∀ (he224 : Sum.inl () = v216) (l223 : List Value) (w219 : World) (hS220 : St w0 Z69 (xrow Q38 Q39 53 6 (t35.flatMap enc_api_Node) :: xrow Q60 Q61 53 6 (t57.flatMap enc_api_Node) :: xrow Q75 Q76 53 6 (t72.flatMap enc_api_Node) :: fs) w219), Runs Tryz.prog (fx 3) [.code (cd3 [1, 1, 1, 1, 1, 1, 1])] (fill [none, none, none, none, none, none, some (.slice Q38 t35.length Q39), none, none, some (.slice Q60 t57.length Q61), none, none, some (.slice Q75 t72.length Q76), none, none, none, none, none, none, none, none, none, none, none, none, none, none, none, none, none, none, none, none, none, none, none, none, none, none, none, none, none, none, none, none, none, none, none, none, none, none, none, none, none, none, none, none, none, none, none, none, none, none, none, none, none, none, none, none, none, none, none, none, none, none, none, none, none, none, none, none, none, none, none, none, none, none, none, none, none, none, none, none, none, none, none, none, none, none] l223) w219 R := by
        intro he224 l223 w219 hS220
        subst he224
        try dsimp only at hp218
        refine sx_run 3 (todo' := [.inRegion (opsOf (cd3 [1, 1, 1, 1, 1, 1, 1, 0])) [1], .code (cd3 [1, 1, 1, 1, 1, 1, 1, 1])]) (us := [(94, .slice Q38 t35.length Q39)]) (by kernel_rfl) ?_
        obtain ⟨_, hr225, hp226⟩ := bind_some' hp218
        refine r_call1 (c := (cd3 [1, 1, 1, 1, 1, 1, 1, 0])) (i := 1) (d := (some 95)) (g := 8) (args := #[.slice Q38 t35.length Q39]) (by kernel_rfl) (by kernel_rfl) (by kernel_rfl) (by kernel_rfl) (weirlaw06_spoil.ok t35 Q38 Q39 hS220 hr225) ?_
        rintro _ w227 ⟨rfl, hS228⟩
        refine ⟨.tuple #[], rfl, ?_⟩
        refine sx_run 5 (todo' := [.inRegion (opsOf (cd3 [1, 1, 1, 1, 1, 1, 1, 1, 0])) [2, 3], .code (cd3 [1, 1, 1, 1, 1, 1, 1, 1, 1])]) (us := [(96, .slice Q60 t57.length Q61), (97, .slice Q75 t72.length Q76)]) (by kernel_rfl) ?_
        obtain ⟨t229, hr230, hp231⟩ := bind_some' hp226
        obtain ⟨Z232, hz233, hS234, hs235, hb236⟩ := hS228.lendrow len_api_Node (by omega)
        obtain ⟨Z237, hz238, hS239, hs240, hb241⟩ := hS234.lendrow len_api_Node (by omega)
        refine r_call1 (c := (cd3 [1, 1, 1, 1, 1, 1, 1, 1, 0])) (i := 2) (d := (some 98)) (g := 6) (args := #[.slice Q60 t57.length Q61, .slice Q75 t72.length Q76]) (by kernel_rfl) (by kernel_rfl) (by kernel_rfl) (by kernel_rfl) (weirlaw06_sameCond.ok t57 t72 Q60 Q61 Q75 Q76 hS239 (hs235.up hz238) hs240 hr230) ?_
        rintro _ w242 ⟨rfl, hS243⟩
        refine ⟨.bool t229, rfl, ?_⟩
        have hS244 := hb241 _ _ hS243
        have hS245 := hb236 _ _ hS244
        refine sx_run 2 (todo' := [.code (cd3 [1, 1, 1, 1, 1, 1, 1, 1, 1])]) (us := [(4, .bool t229)]) (by kernel_rfl) ?_
        have hS246 := hS245.drop
        have hS247 := hS246.drop
        have hS248 := hS247.less (Zm.Le.trans hz25 (Zm.Le.trans hz48 hz70))
        refine runs_ret (fn := Tryz.f3) (v := .bool t229) Tryz.func3 (by kernel_rfl) ?_
        have hr249 := (Option.some.inj hp231)
        cases hr249
        exact hR _ _ ⟨rfl, hS248⟩
       have L259 : ∀ (t250 : Int) (e254 : Sum Unit Bool), weirlaw06_CondTakes.l0 a0 t250 = some e254 → e254 = v216 → ∀ (l253 : List Value) (w251 : World) (hS252 : St w0 Z69 (xrow Q38 Q39 53 6 (t35.flatMap enc_api_Node) :: xrow Q60 Q61 53 6 (t57.flatMap enc_api_Node) :: xrow Q75 Q76 53 6 (t72.flatMap enc_api_Node) :: fs) w251), Runs Tryz.prog (fx 3) [.code (cd3 [1, 1, 1, 1, 1, 1, 0, 1, 0, 0]), .inLoop (cd3 [1, 1, 1, 1, 1, 1, 0, 1, 0, 0]), .inBlock 0, .code (cd3 [1, 1, 1, 1, 1, 1, 1])] (fill [some (.slice Aa0 a0.length ca0), none, none, none, none, some (.slice A19 ((([] : List api_Token) ++ a0) ++ ([(⟨77, (⟨#[]⟩ : ByteArray), 0, 0, 0, 0, 0⟩ : api_Token)] : List api_Token)).length c20), some (.slice Q38 t35.length Q39), none, none, some (.slice Q60 t57.length Q61), none, none, some (.slice Q75 t72.length Q76), none, none, some (.int .i64 t250), none, none, none, none, none, none, none, none, none, none, none, none, none, none, none, none, none, none, none, none, none, none, none, none, none, none, none, none, none, none, none, none, none, none, none, none, none, none, none, none, none, none, none, none, none, none, none, none, none, none, none, none, none, none, none, none, none, none, none, none, none, none, none, none, none, none, none, none, none, none, none, none, none, none, none, none, none, none, none, none, none, none, none] l253) w251 R := by
        refine weirlaw06_CondTakes.l0.partial_correctness a0 (fun t250 e254 => e254 = v216 → ∀ (l253 : List Value) (w251 : World) (hS252 : St w0 Z69 (xrow Q38 Q39 53 6 (t35.flatMap enc_api_Node) :: xrow Q60 Q61 53 6 (t57.flatMap enc_api_Node) :: xrow Q75 Q76 53 6 (t72.flatMap enc_api_Node) :: fs) w251), Runs Tryz.prog (fx 3) [.code (cd3 [1, 1, 1, 1, 1, 1, 0, 1, 0, 0]), .inLoop (cd3 [1, 1, 1, 1, 1, 1, 0, 1, 0, 0]), .inBlock 0, .code (cd3 [1, 1, 1, 1, 1, 1, 1])] (fill [some (.slice Aa0 a0.length ca0), none, none, none, none, some (.slice A19 ((([] : List api_Token) ++ a0) ++ ([(⟨77, (⟨#[]⟩ : ByteArray), 0, 0, 0, 0, 0⟩ : api_Token)] : List api_Token)).length c20), some (.slice Q38 t35.length Q39), none, none, some (.slice Q60 t57.length Q61), none, none, some (.slice Q75 t72.length Q76), none, none, some (.int .i64 t250), none, none, none, none, none, none, none, none, none, none, none, none, none, none, none, none, none, none, none, none, none, none, none, none, none, none, none, none, none, none, none, none, none, none, none, none, none, none, none, none, none, none, none, none, none, none, none, none, none, none, none, none, none, none, none, none, none, none, none, none, none, none, none, none, none, none, none, none, none, none, none, none, none, none, none, none, none, none, none, none, none, none, none] l253) w251 R) ?_
        intro rec258 ih257 t250 e254 hb256 he255 l253 w251 hS252
        have hq260 : ∀ x, Sum.inr x = e254 → x = q0 := fun x hx => hq221 x (hx.trans he255)
        refine sx_split 7 (todo' := [.inRegion (opsOf (cd3 [1, 1, 1, 1, 1, 1, 0, 1, 0, 0, 0, 0])) [], .code (cd3 [1, 1, 1, 1, 1, 1, 0, 1, 0, 0, 0, 1]), .code (cd3 [1, 1, 1, 1, 1, 1, 0, 1, 0, 0, 1]), .inLoop (cd3 [1, 1, 1, 1, 1, 1, 0, 1, 0, 0]), .inBlock 0, .code (cd3 [1, 1, 1, 1, 1, 1, 1])]) (us := [(79, .int .i64 t250), (80, .slice Aa0 a0.length ca0), (81, .int .i64 (a0.length : Int))]) (d := 82) (t := (decide (t250 < (a0.length : Int)))) (by kernel_rfl) (fun h261 => ?_) (fun h262 => ?_)
        ·skip
         have hp263 := ite_t hb256 h261
         refine sx_run 6 (todo' := [.code (cd3 [1, 1, 1, 1, 1, 1, 0, 1, 0, 0, 1, 0, 0, 0]), .code (cd3 [1, 1, 1, 1, 1, 1, 0, 1, 0, 0, 1, 0, 0, 1]), .inBlock 1, .code (cd3 [1, 1, 1, 1, 1, 1, 0, 1, 0, 0, 1, 1]), .inLoop (cd3 [1, 1, 1, 1, 1, 1, 0, 1, 0, 0]), .inBlock 0, .code (cd3 [1, 1, 1, 1, 1, 1, 1])]) (us := []) (by kernel_rfl) ?_
         refine r_quiet hS252 (c := (cd3 [1, 1, 1, 1, 1, 1, 0, 1, 0, 0, 1, 0, 0, 0])) (id := 10) (by kernel_rfl) (by kernel_rfl) (by kernel_rfl) (is := [0, 1, 2, 3, 4, 5, 6, 7, 8]) (by kernel_rfl) ?_
         refine q_run 2 (is' := [2, 3, 4, 5, 6, 7, 8]) (us := [(85, .slice A19 ((([] : List api_Token) ++ a0) ++ ([(⟨77, (⟨#[]⟩ : ByteArray), 0, 0, 0, 0, 0⟩ : api_Token)] : List api_Token)).length c20), (86, .int .i64 t250)]) (by kernel_rfl) ?_
         obtain ⟨g264, hp265⟩ := ite_some hp263
         obtain ⟨b266, p267, hA268, hc269⟩ := hs27.atF g264.1 g264.2
         refine q_indexAddr (c := (cd3 [1, 1, 1, 1, 1, 1, 0, 1, 0, 0, 1, 0, 0, 0])) (i := 2) (d := (some 87)) (ty := 0) (t := 22) (e := 24) (n := ((([] : List api_Token) ++ a0) ++ ([(⟨77, (⟨#[]⟩ : ByteArray), 0, 0, 0, 0, 0⟩ : api_Token)] : List api_Token)).length) (cp := c20) (sz := 7) (kk := .i64) (x := (.tmp 85)) (y := (.tmp 86)) (b := b266) (o' := p267) (j := t250) (by kernel_rfl) (by kernel_rfl) (slv (by kernel_rfl) hA268) (by kernel_rfl) (by kernel_rfl) (by kernel_rfl) g264.1 g264.2 ?_
         refine q_load (c := (cd3 [1, 1, 1, 1, 1, 1, 0, 1, 0, 0, 1, 0, 0, 0])) (i := 3) (d := (some 88)) (ty := 24) (t := 24) (x := (.tmp 87)) (p := ⟨b266, p267 + t250.toNat * 7, none⟩) (v := .agg (enc_api_Token (gt ((([] : List api_Token) ++ a0) ++ ([(⟨77, (⟨#[]⟩ : ByteArray), 0, 0, 0, 0, 0⟩ : api_Token)] : List api_Token)) t250)).toArray) (by kernel_rfl) (by kernel_rfl) (by kernel_rfl) (fun w hC => (loads_agg ((hc269.mono (Zm.Le.trans hz48 hz70)).cells hC) (by kernel_rfl) (by kernel_rfl))) ?_
         refine q_run 2 (is' := [6, 7, 8]) (us := [(89, .slice Aa0 a0.length ca0), (90, .int .i64 t250)]) (by kernel_rfl) ?_
         obtain ⟨g270, hp271⟩ := ite_some hp265
         obtain ⟨b272, p273, hA274, hc275⟩ := ha0.atF g270.1 g270.2
         refine q_indexAddr (c := (cd3 [1, 1, 1, 1, 1, 1, 0, 1, 0, 0, 1, 0, 0, 0])) (i := 6) (d := (some 91)) (ty := 0) (t := 22) (e := 24) (n := a0.length) (cp := ca0) (sz := 7) (kk := .i64) (x := (.tmp 89)) (y := (.tmp 90)) (b := b272) (o' := p273) (j := t250) (by kernel_rfl) (by kernel_rfl) (slv (by kernel_rfl) hA274) (by kernel_rfl) (by kernel_rfl) (by kernel_rfl) g270.1 g270.2 ?_
         refine q_load (c := (cd3 [1, 1, 1, 1, 1, 1, 0, 1, 0, 0, 1, 0, 0, 0])) (i := 7) (d := (some 92)) (ty := 24) (t := 24) (x := (.tmp 91)) (p := ⟨b272, p273 + t250.toNat * 7, none⟩) (v := .agg (enc_api_Token (gt a0 t250)).toArray) (by kernel_rfl) (by kernel_rfl) (by kernel_rfl) (fun w hC => (loads_agg ((hc275.mono (Zm.Le.trans hz25 (Zm.Le.trans hz48 hz70))).cells hC) (by kernel_rfl) (by kernel_rfl))) ?_
         refine q_val (c := (cd3 [1, 1, 1, 1, 1, 1, 0, 1, 0, 0, 1, 0, 0, 0])) (i := 8) (d := (some 93)) (ty := 4) (op := .binOp .neq 24 (.tmp 88) (.tmp 92) 24) (v := .bool (!(decide ((gt ((([] : List api_Token) ++ a0) ++ ([(⟨77, (⟨#[]⟩ : ByteArray), 0, 0, 0, 0, 0⟩ : api_Token)] : List api_Token)) t250) = (gt a0 t250))))) (by kernel_rfl) (by kernel_rfl) (fun w hC o ho _ => x_neq_api_Token (by kernel_rfl) (by kernel_rfl) ho) ?_
         refine q_split (!(decide ((gt ((([] : List api_Token) ++ a0) ++ ([(⟨77, (⟨#[]⟩ : ByteArray), 0, 0, 0, 0, 0⟩ : api_Token)] : List api_Token)) t250) = (gt a0 t250)))) (fun h276 => ?_) (fun h277 => ?_)
         ·skip
          have hp278 := ite_t hp271 h276
          refine Qs.nil ?_
          intro w279 hS280
          refine sx_run 5 (todo' := [.code (cd3 [1, 1, 1, 1, 1, 1, 0, 1, 0, 0, 1, 0, 0, 1, 0, 1]), .inBlock 1, .code (cd3 [1, 1, 1, 1, 1, 1, 0, 1, 0, 0, 1, 1]), .inLoop (cd3 [1, 1, 1, 1, 1, 1, 0, 1, 0, 0]), .inBlock 0, .code (cd3 [1, 1, 1, 1, 1, 1, 1])]) (us := [(4, .bool false)]) (by kernel_rfl) ?_
          have hS281 := hS280.drop
          have hS282 := hS281.drop
          have hS283 := hS282.drop
          have hS284 := hS283.less (Zm.Le.trans hz25 (Zm.Le.trans hz48 hz70))
          refine runs_ret (fn := Tryz.f3) (v := .bool false) Tryz.func3 (by kernel_rfl) ?_
          have hr285 := (hq260 _ (Option.some.inj hp278))
          cases hr285
          exact hR _ _ ⟨rfl, hS284⟩
         ·skip
          have hp286 := ite_f hp271 h277
          refine Qs.nil ?_
          intro w287 hS288
          refine sx_run 8 (todo' := [.inLoop (cd3 [1, 1, 1, 1, 1, 1, 0, 1, 0, 0]), .inBlock 0, .code (cd3 [1, 1, 1, 1, 1, 1, 1])]) (us := [(83, .int .i64 t250), (84, .int .i64 (IntKind.i64.wrap (t250 + 1))), (15, .int .i64 (IntKind.i64.wrap (t250 + 1)))]) (by kernel_rfl) ?_
          refine sx_run 1 (todo' := [.code (cd3 [1, 1, 1, 1, 1, 1, 0, 1, 0, 0]), .inLoop (cd3 [1, 1, 1, 1, 1, 1, 0, 1, 0, 0]), .inBlock 0, .code (cd3 [1, 1, 1, 1, 1, 1, 1])]) (us := []) (by kernel_rfl) ?_
          refine Runs.fill (m := [some (.slice Aa0 a0.length ca0), none, none, none, none, some (.slice A19 ((([] : List api_Token) ++ a0) ++ ([(⟨77, (⟨#[]⟩ : ByteArray), 0, 0, 0, 0, 0⟩ : api_Token)] : List api_Token)).length c20), some (.slice Q38 t35.length Q39), none, none, some (.slice Q60 t57.length Q61), none, none, some (.slice Q75 t72.length Q76), none, none, some (.int .i64 (IntKind.i64.wrap (t250 + 1))), none, none, none, none, none, none, none, none, none, none, none, none, none, none, none, none, none, none, none, none, none, none, none, none, none, none, none, none, none, none, none, none, none, none, none, none, none, none, none, none, none, none, none, none, none, none, none, none, none, none, none, none, none, none, none, none, none, none, none, none, none, none, none, none, none, none, none, none, none, none, none, none, none, none, none, none, none, none, none, none, none, none, none]) (by kernel_rfl) ?_
          exact ih257 (IntKind.i64.wrap (t250 + 1)) _ hp286 he255 _ _ hS288
        ·skip
         have hp289 := ite_f hb256 h262
         refine sx_run 3 (todo' := [.code (cd3 [1, 1, 1, 1, 1, 1, 1])]) (us := []) (by kernel_rfl) ?_
         refine Runs.fill (m := [none, none, none, none, none, none, some (.slice Q38 t35.length Q39), none, none, some (.slice Q60 t57.length Q61), none, none, some (.slice Q75 t72.length Q76), none, none, none, none, none, none, none, none, none, none, none, none, none, none, none, none, none, none, none, none, none, none, none, none, none, none, none, none, none, none, none, none, none, none, none, none, none, none, none, none, none, none, none, none, none, none, none, none, none, none, none, none, none, none, none, none, none, none, none, none, none, none, none, none, none, none, none, none, none, none, none, none, none, none, none, none, none, none, none, none, none, none, none, none, none, none]) (by kernel_rfl) ?_
         exact J222 ((Option.some.inj hp289).trans he255) _ _ hS252
       have hS290 := hS215.pick1
       have hS291 := hS290.pick2
       refine Runs.fill (m := [some (.slice Aa0 a0.length ca0), none, none, none, none, some (.slice A19 ((([] : List api_Token) ++ a0) ++ ([(⟨77, (⟨#[]⟩ : ByteArray), 0, 0, 0, 0, 0⟩ : api_Token)] : List api_Token)).length c20), some (.slice Q38 t35.length Q39), none, none, some (.slice Q60 t57.length Q61), none, none, some (.slice Q75 t72.length Q76), none, none, some (.int .i64 0), none, none, none, none, none, none, none, none, none, none, none, none, none, none, none, none, none, none, none, none, none, none, none, none, none, none, none, none, none, none, none, none, none, none, none, none, none, none, none, none, none, none, none, none, none, none, none, none, none, none, none, none, none, none, none, none, none, none, none, none, none, none, none, none, none, none, none, none, none, none, none, none, none, none, none, none, none, none, none, none, none, none, none]) (by kernel_rfl) ?_
       exact L259 0 _ hv217 rfl _ _ hS291

end
end Go.Proofs.YtdcdpigneonedaaGreatDoor.K
