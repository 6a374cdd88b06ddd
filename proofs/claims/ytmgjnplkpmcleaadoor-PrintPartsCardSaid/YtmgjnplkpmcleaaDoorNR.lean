/- WriteRune of a builder, for runes of one byte. -/
import Derived.Test.YtmgjnplkpmcleaaDoorNB
set_option linter.unusedVariables false
set_option linter.unusedSimpArgs false
set_option maxRecDepth 100000
namespace Go.Proofs.YtmgjnplkpmcleaaDoor.K
open Go Go.RowKit

noncomputable def cdU (p : List Nat) : Code := sub (bodyOf Tryd.f31) p
set_option maxHeartbeats 16000000 in
theorem ar_ascii (r : Int) (h0 : 0 ≤ r) (h1 : r ≤ 127) (n cp : Nat) (A : Option Addr) (xcs : List Value) (hn : xcs.length = n) (hb : (n + 1) * 1 ≤ 140737488355328) {w0 : World} {Z : Zm} {fs : List XObj} {w : World} (hS0 : St w0 Z (xrow A cp 5 1 xcs :: fs) w) :
    Calls Tryd.prog 31 #[.slice A n cp, .int .i32 r] w (fun e w' => ∃ (A' : Option Addr) (c' : Nat), e = .returned (.slice A' (n + 1) c') ∧ (A' = A ∧ c' = cp ∨ 0 < c' ∧ ∃ g, A' = some ⟨g, 0, none⟩) ∧ St w0 Z (xrow A' c' 5 1 (xcs ++ [.int .u8 (IntKind.u8.wrap r)]) :: fs) w') := by
  refine calls_abs ?_; intro R hR
  refine calls_of_runs (fn := Tryd.f31) (c := cdU []) Tryd.func31 (by kernel_rfl) (al := [.slice A n cp, .int .i32 r]) rfl (n := 14) rfl ?_
  refine sx_split 10 (todo' := [.inRegion (opsOf (cdU [1, 0, 0])) [], .code (cdU [1, 0, 1]), .code (cdU [1, 1])]) (us := [(4, .slice none 0 0), (5, .int .i32 r), (6, .int .u32 (IntKind.u32.wrap r))]) (d := 7) (t := (decide ((IntKind.u32.wrap r) ≤ 127))) (by kernel_rfl) (fun _ => ?_) (fun h2 => ?_)
  · refine sx_run 7 (todo' := [.inRegion (opsOf (cdU [1, 0, 1, 0, 0])) [3, 4, 5], .code (cdU [1, 0, 1, 0, 1]), .code (cdU [1, 1])]) (us := [(8, .slice A n cp), (9, .int .i32 r), (10, .int .u8 (IntKind.u8.wrap r))]) (by kernel_rfl) ?_
    refine r_lit (c := (cdU [1, 0, 1, 0, 0])) (i := 3) (d := (some 11)) (ty := 47) (t := 47) (e := 5) (sz := 1) (n := 1) (parts := #[(0, (.tmp 10))]) (vs := [(0, .int .u8 (IntKind.u8.wrap r))]) (z := zeroOf Tryd.prog 5) (cs' := ([(IntKind.u8.wrap r)] : List Int).flatMap (encI .u8)) hS0 (by kernel_rfl) (by kernel_rfl) (by kernel_rfl) (by kernel_rfl) (by kernel_rfl) (by decide) (by decide) (by kernel_rfl) rfl (Parts.cons (c := [.int .u8 (IntKind.u8.wrap r)]) (by kernel_rfl) rfl Parts.nil) rfl ?_
    intro b5 w6 hS7
    have hS8 := hS7.pick1
    refine r_appendB (c := (cdU [1, 0, 1, 0, 0])) (i := 4) (d := (some 12)) (ty := 47) (e := 5) (u := 5) (t := 47) (t2 := 47) (sz := 1) (n := n) (m := ([(IntKind.u8.wrap r)] : List Int).length) (cp := cp) (A := A) (bytes := 1) (xcs := xcs) (ycs := ([(IntKind.u8.wrap r)] : List Int).flatMap (encI .u8)) (s := (.tmp 8)) (x := (.tmp 11)) (xv := .slice (some ⟨b5, 0, none⟩) ([(IntKind.u8.wrap r)] : List Int).length 1) (info := infoOf Tryd.prog 5) (z := zeroOf Tryd.prog 5) hS8 (by kernel_rfl) (by kernel_rfl) (by kernel_rfl) (by kernel_rfl) (by kernel_rfl) (.inl (by kernel_rfl)) (by kernel_rfl) (by kernel_rfl) (by kernel_rfl) (by kernel_rfl) (by kernel_rfl) (by omega) (by omega) (src_row (hS8.row 1 rfl) (by omega) (len_encI .u8)) rfl hb (by omega) ?_
    intro A11 c12 w13 hA hS14
    refine sx_run 2 (todo' := [.code (cdU [1, 0, 1, 0, 1]), .code (cdU [1, 1])]) (us := [(4, .slice A11 (n + 1) c12)]) (by kernel_rfl) ?_
    have hS17 := hS14.pick1.drop
    refine runs_ret (fn := Tryd.f31) (v := .slice A11 (n + 1) c12) Tryd.func31 (by kernel_rfl) ?_
    exact hR _ _ ⟨A11, c12, rfl, hA, hS17⟩
  · have : IntKind.u32.wrap r = r := by simp [IntKind.wrap, IntKind.bits, IntKind.signed]; omega
    rw [this] at h2
    exact absurd (of_decide_eq_false h2) (by omega)
noncomputable def cdV (p : List Nat) : Code := sub (bodyOf Tryd.f20) p
def runeB (r : Int) : ByteArray := ⟨#[UInt8.ofNat r.toNat]⟩
theorem bcells_rune (s : ByteArray) {r : Int} (h0 : 0 ≤ r) (h1 : r ≤ 127) : bcells s ++ [.int .u8 (IntKind.u8.wrap r)] = bcells (s ++ runeB r) := by
  have hw : IntKind.u8.wrap r = r := by simp [IntKind.wrap, IntKind.bits, IntKind.signed]; omega
  have hr : strBytes (runeB r) = [r] := by
    simp only [strBytes, runeB, List.map_cons, List.map_nil, List.cons.injEq, and_true]
    show ((UInt8.ofNat r.toNat).toNat : Int) = r
    rw [UInt8.toNat_ofNat']
    omega
  rw [hw]; simp only [bcells, strBytes_cat, List.flatMap_append, hr]; rfl
def bd_rune.f (s : ByteArray) (r : Int) : Option (Int × ByteArray) := if 0 ≤ r ∧ r ≤ 127 ∧ ((strBytes s).length + 1) * 1 ≤ 140737488355328 then some (IntKind.i64.wrap (((((strBytes s).length + 1 : Nat)) : Int) - ((strBytes s).length : Int)), s ++ runeB r) else none
set_option maxHeartbeats 16000000 in
theorem bd_rune.ok (s : ByteArray) (r : Int) (b : Nat) (A : Option Addr) (cp : Nat) {w0 : World} {Z : Zm} {fs : List XObj} {w : World} (hS0 : St w0 Z (xbld b A cp s :: fs) w) {q0 : Int} {q1 : ByteArray} (hp0 : bd_rune.f s r = some (q0, q1)) :
    Calls Tryd.prog 20 #[.pointer (some ⟨b, 0, none⟩), .int .i32 r] w (fun e w' => ∃ (QA0 : Option Addr) (Qc0 : Nat), e = .returned (.tuple #[.int .i64 q0, .nilIface]) ∧ St w0 Z (xbld b QA0 Qc0 q1 :: fs) w') := by
  refine calls_abs ?_; intro R hR
  unfold bd_rune.f at hp0
  obtain ⟨⟨g1, g2, g3⟩, hp5⟩ := ite_some hp0
  obtain ⟨p, hp, hS1, hA0⟩ := hS0.openB
  refine calls_of_runs (fn := Tryd.f20) (c := cdV []) Tryd.func20 (by kernel_rfl) (al := [.pointer (some ⟨b, 0, none⟩), .int .i32 r]) rfl (n := 28) rfl ?_
  refine sx_run 8 (todo' := [.inRegion (opsOf (cdV [1, 0])) [1], .code (cdV [1, 1])]) (us := [(4, .int .i64 0), (5, .nilIface), (7, .pointer (some ⟨b, 0, none⟩))]) (by kernel_rfl) ?_
  refine r_call1 (c := (cdV [1, 0])) (i := 1) (d := (some 8)) (g := 30) (args := #[.pointer (some ⟨b, 0, none⟩)]) (by kernel_rfl) (by kernel_rfl) (by kernel_rfl) (by kernel_rfl) (bd_check hp hS1) ?_
  rintro _ w1 ⟨rfl, hS2⟩
  refine ⟨.tuple #[], rfl, ?_⟩
  refine sx_run 6 (todo' := [.inRegion (opsOf (cdV [1, 1, 0])) [3, 4, 5], .code (cdV [1, 1, 1])]) (us := [(9, .pointer (some ⟨b, 0, none⟩)), (10, .pointer (some ⟨b, 0, none⟩)), (11, .pointer (some ⟨b, 1, none⟩))]) (by kernel_rfl) ?_
  refine r_load (c := (cdV [1, 1, 0])) (i := 3) (d := (some 12)) (ty := 47) (t := 47) (x := (.tmp 11)) (p := ⟨b, 1, none⟩) (v := .slice A (strBytes s).length cp) (by kernel_rfl) (by kernel_rfl) (by kernel_rfl) (loads_at 1 (hS2.blk 0 rfl) (by kernel_rfl) (by kernel_rfl)) ?_
  refine sx_run 9 (todo' := [.inRegion (opsOf (cdV [1, 1, 1, 0])) [4, 5, 6, 7, 8, 9], .code (cdV [1, 1, 1, 1])]) (us := [(13, .int .i64 ((strBytes s).length : Int)), (6, .int .i64 ((strBytes s).length : Int)), (14, .pointer (some ⟨b, 0, none⟩)), (15, .pointer (some ⟨b, 0, none⟩)), (16, .pointer (some ⟨b, 0, none⟩)), (17, .pointer (some ⟨b, 1, none⟩))]) (by kernel_rfl) ?_
  refine r_load (c := (cdV [1, 1, 1, 0])) (i := 4) (d := (some 18)) (ty := 47) (t := 47) (x := (.tmp 17)) (p := ⟨b, 1, none⟩) (v := .slice A (strBytes s).length cp) (by kernel_rfl) (by kernel_rfl) (by kernel_rfl) (loads_at 1 (hS2.blk 0 rfl) (by kernel_rfl) (by kernel_rfl)) ?_
  refine sx_run 1 (todo' := [.inRegion (opsOf (cdV [1, 1, 1, 0])) [6, 7, 8, 9], .code (cdV [1, 1, 1, 1])]) (us := [(19, .int .i32 r)]) (by kernel_rfl) ?_
  have hS3 := hS2.pick1
  refine r_call1 (c := (cdV [1, 1, 1, 0])) (i := 6) (d := (some 20)) (g := 31) (args := #[.slice A (strBytes s).length cp, .int .i32 r]) (by kernel_rfl) (by kernel_rfl) (by kernel_rfl) (by kernel_rfl) (ar_ascii r g1 g2 (strBytes s).length cp A (bcells s) (by rw [bcells, flat_len (len_encI .u8)]; omega) g3 hS3) ?_
  rintro _ w8 ⟨A6, c7, rfl, hA1, hS9⟩
  refine ⟨.slice A6 ((strBytes s).length + 1) c7, rfl, ?_⟩
  refine sx_run 2 (todo' := [.inRegion (opsOf (cdV [1, 1, 1, 0])) [9], .code (cdV [1, 1, 1, 1])]) (us := [(21, .pointer (some ⟨b, 0, none⟩)), (22, .pointer (some ⟨b, 1, none⟩))]) (by kernel_rfl) ?_
  have hS11 := hS9.pick1
  refine r_store (c := (cdV [1, 1, 1, 0])) (i := 9) (d := none) (ty := 0) (t := 47) (x := (.tmp 22)) (y := (.tmp 20)) (b := b) (o := 1) (e := 49) (cs := [.pointer (some ⟨b, 0, none⟩), .slice A (strBytes s).length cp]) (v := .slice A6 ((strBytes s).length + 1) c7) (vs := [.slice A6 ((strBytes s).length + 1) c7]) (cs' := [.pointer (some ⟨b, 0, none⟩), .slice A6 ((strBytes s).length + 1) c7]) hS11 (by kernel_rfl) (by kernel_rfl) (by kernel_rfl) (by kernel_rfl) (by kernel_rfl) (by kernel_rfl) (by kernel_rfl) (Nat.le_of_ble_eq_true (by kernel_rfl)) (by kernel_rfl) ?_
  intro w12 hS13
  refine sx_run 6 (todo' := [.inRegion (opsOf (cdV [1, 1, 1, 1, 0])) [3, 4, 5, 6, 7, 8], .code (cdV [1, 1, 1, 1, 1])]) (us := [(23, .pointer (some ⟨b, 0, none⟩)), (24, .pointer (some ⟨b, 0, none⟩)), (25, .pointer (some ⟨b, 1, none⟩))]) (by kernel_rfl) ?_
  refine r_load (c := (cdV [1, 1, 1, 1, 0])) (i := 3) (d := (some 26)) (ty := 47) (t := 47) (x := (.tmp 25)) (p := ⟨b, 1, none⟩) (v := .slice A6 ((strBytes s).length + 1) c7) (by kernel_rfl) (by kernel_rfl) (by kernel_rfl) (loads_at 1 (hS13.blk 0 rfl) (by kernel_rfl) (by kernel_rfl)) ?_
  refine sx_run 6 (todo' := [.code (cdV [1, 1, 1, 1, 1])]) (us := [(27, .int .i64 (((strBytes s).length + 1 : Nat) : Int)), (28, .int .i64 ((strBytes s).length : Int)), (29, .int .i64 (IntKind.i64.wrap (((((strBytes s).length + 1 : Nat)) : Int) - ((strBytes s).length : Int)))), (4, .int .i64 (IntKind.i64.wrap (((((strBytes s).length + 1 : Nat)) : Int) - ((strBytes s).length : Int)))), (5, .nilIface)]) (by kernel_rfl) ?_
  refine runs_ret (fn := Tryd.f20) (v := .tuple #[.int .i64 (IntKind.i64.wrap (((((strBytes s).length + 1 : Nat)) : Int) - ((strBytes s).length : Int))), .nilIface]) Tryd.func20 (by kernel_rfl) ?_
  have hr15 := (Option.some.inj hp5)
  cases hr15
  have hlen : (strBytes (s ++ runeB r)).length = (strBytes s).length + 1 := by rw [strBytes_cat, List.length_append]; rfl
  exact hR _ _ ⟨A6, c7, rfl, St.closeB hS13 (.inr rfl) hlen.symm (bcells_rune s g1 g2) (hA1.elim (fun h => by rw [h.1, h.2]; exact hA0) .inr)⟩
end Go.Proofs.YtmgjnplkpmcleaaDoor.K
