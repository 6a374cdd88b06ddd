import Derived.Test.YteppciglfdiljaaS
import Derived.Test.YteppciglfdiljaaProg
set_option linter.unusedVariables false
set_option linter.unusedSimpArgs false
namespace Go.Proofs.Yteppciglfdiljaa.K
open Go Go.RowKit
noncomputable def c31 (p : List Nat) : Code := sub (bodyOf Try.f31) p
def word_Put.l0 (t36 : Int) (t37 : List Int) : Option (Int × (List Int)) :=
  (if (decide (t36 ≥ 128)) = true then (if (t37.length + 1) * 1 ≤ 140737488355328 then (word_Put.l0 (shrI .u64 t36 7) (t37 ++ [(bor .u8 (IntKind.u8.wrap t36) 128)])) else none) else some ((t36, t37)))
 partial_fixpoint
def word_Put.f (a0 : Int) : Option ByteArray :=
  (word_Put.l0 (bxor .u64 (IntKind.u64.wrap (shlI .i64 a0 1)) (IntKind.u64.wrap (shrI .i64 a0 63))) ([] : List Int) >>= (fun (t5, t6) => (if (t6.length + 1) * 1 ≤ 140737488355328 then some ((ofBytes (t6 ++ [(IntKind.u8.wrap t5)]))) else none)))
theorem word_Put.ok (a0 : Int) (w0 : World) (r : ByteArray) (hp0 : word_Put.f a0 = some r) :
    Calls Try.prog 31 #[.int .i64 a0] w0 (fun e w' => e = .returned (.string r) ∧ Fr [] w0 w') := by
  refine calls_abs ?_; intro R hR
  unfold word_Put.f at hp0
  have hF0 : Fr [] w0 w0 := Fr.refl _ _
  refine calls_of_runs (fn := Try.f31) (c := c31 []) Try.func31 (by kernel_rfl) (al := [.int .i64 a0]) rfl (n := 27) rfl ?_
  refine sx_run 22 (todo' := [.code (c31 [1, 1, 1, 0, 0, 0]), .inLoop (c31 [1, 1, 1, 0, 0, 0]), .inBlock 0, .code (c31 [1, 1, 1, 1])]) (us := [(2, .string (⟨#[]⟩ : ByteArray)), (5, .int .i64 a0), (6, .int .i64 (shlI .i64 a0 1)), (7, .int .u64 (IntKind.u64.wrap (shlI .i64 a0 1))), (8, .int .i64 a0), (9, .int .i64 (shrI .i64 a0 63)), (10, .int .u64 (IntKind.u64.wrap (shrI .i64 a0 63))), (11, .int .u64 (bxor .u64 (IntKind.u64.wrap (shlI .i64 a0 1)) (IntKind.u64.wrap (shrI .i64 a0 63)))), (3, .int .u64 (bxor .u64 (IntKind.u64.wrap (shlI .i64 a0 1)) (IntKind.u64.wrap (shrI .i64 a0 63)))), (4, .slice none ([] : List Int).length 0)]) (by kernel_rfl) ?_
  obtain ⟨v2, hv3, hp4⟩ := bind_some' hp0
  have J14 : ∀ (t5 : Int) (t6 : List Int) (he16 : (t5, t6) = v2) (l15 : List Value) (A7 : Option Addr) (c8 : Nat) (w11 : World) (hF12 : Fr [] w0 w11) (hO13 : SlO (encI .u8) 5 1 w0.heap.size w11 A7 c8 t6), Runs Try.prog 31 [.code (c31 [1, 1, 1, 1])] (fill [none, none, none, some (.int .u64 t5), some (.slice A7 t6.length c8), none, none, none, none, none, none, none, none, none, none, none, none, none, none, none, none, none, none, none, none, none, none, none] l15) w11 R := by
    intro t5 t6 he16 l15 A7 c8 w11 hF12 hO13
    subst he16
    try dsimp only at hp4
    refine sx_run 5 (todo' := [.inRegion (opsOf (c31 [1, 1, 1, 1, 0])) [3, 4, 5, 6], .code (c31 [1, 1, 1, 1, 1])]) (us := [(22, .slice A7 t6.length c8), (23, .int .u64 t5), (24, .int .u8 (IntKind.u8.wrap t5))]) (by kernel_rfl) ?_
    refine r_lit1 (c := (c31 [1, 1, 1, 1, 0])) (i := 3) (ty := 56) (d := (some 25)) (t := 56) (e := 5) (sz := 1) (x := (.tmp 24)) (v := .int .u8 (IntKind.u8.wrap t5)) (z := zeroOf Try.prog 5) (cs := [.int .u8 (IntKind.u8.wrap t5)]) (by kernel_rfl) (by kernel_rfl) (by kernel_rfl) (by kernel_rfl) (by kernel_rfl) (by omega) (by kernel_rfl) (by kernel_rfl) rfl ?_
    intro b17 w18 hn19
    have hn22 : ∀ a, A7 = some a → a.block ≠ b17 := hn19.neo hO13
    have hF23 : Fr [] w0 w18 := hF12.step0 hn19.fr
    have hO24 := hO13.fr0 hn19.fr
    have hb20 : Blk w18 b17 5 ([.int .u8 (IntKind.u8.wrap t5)]) := hn19.blk
    obtain ⟨g25, hp26⟩ := ite_some hp4
    refine r_append (c := (c31 [1, 1, 1, 1, 0])) (i := 4) (ty := 56) (d := (some 26)) (enc := (encI .u8)) (e := 5) (t := 56) (sz := 1) (bytes := 1) (xs := t6) (ys := [(IntKind.u8.wrap t5)]) (s := (.tmp 22)) (x := (.tmp 25)) (a := ⟨b17, 0, none⟩) (c2 := 1) (info := infoOf Try.prog 5) (z := zeroOf Try.prog 5) (by kernel_rfl) (by kernel_rfl) (by kernel_rfl) (by kernel_rfl) (by kernel_rfl) (by kernel_rfl) (by kernel_rfl) (by kernel_rfl) (by kernel_rfl) (by kernel_rfl) (by omega) hO24 hF23.size (lit1_cells (enc := (encI .u8)) hb20.cells) (fun _ _ => rfl) (fun _ _ => rfl) g25 (by omega) ?_
    intro A27 c28 w29 hO30 hf31 hr32
    have hF33 : Fr [] w0 w29 := hF23.stepO hf31 hO24
    refine r_val (c := (c31 [1, 1, 1, 1, 0])) (i := 5) (ty := 9) (d := (some 27)) (op := .convert 56 9 (.tmp 26)) (v := .string (ofBytes (t6 ++ [(IntKind.u8.wrap t5)]))) (by kernel_rfl) (by kernel_rfl) (fun o ho _ => x_bytesStr (e := 5) (A := A27) (c := c28) (by kernel_rfl) hO30.read (by kernel_rfl) (by kernel_rfl) (by kernel_rfl) ho) ?_
    refine sx_run 2 (todo' := [.code (c31 [1, 1, 1, 1, 1])]) (us := [(2, .string (ofBytes (t6 ++ [(IntKind.u8.wrap t5)])))]) (by kernel_rfl) ?_
    refine runs_ret (fn := Try.f31) (v := .string (ofBytes (t6 ++ [(IntKind.u8.wrap t5)]))) Try.func31 (by kernel_rfl) ?_
    have hr35 := (Option.some.inj hp26)
    subst hr35
    exact hR _ _ ⟨rfl, hF33⟩
  have L51 : ∀ (t36 : Int) (t37 : List Int) (e46 : (Int × (List Int))), word_Put.l0 t36 t37 = some e46 → e46 = v2 → ∀ (l45 : List Value) (A38 : Option Addr) (c39 : Nat) (w42 : World) (hF43 : Fr [] w0 w42) (hO44 : SlO (encI .u8) 5 1 w0.heap.size w42 A38 c39 t37), Runs Try.prog 31 [.code (c31 [1, 1, 1, 0, 0, 0]), .inLoop (c31 [1, 1, 1, 0, 0, 0]), .inBlock 0, .code (c31 [1, 1, 1, 1])] (fill [none, none, none, some (.int .u64 t36), some (.slice A38 t37.length c39), none, none, none, none, none, none, none, none, none, none, none, none, none, none, none, none, none, none, none, none, none, none, none] l45) w42 R := by
    refine word_Put.l0.partial_correctness (fun t36 t37 e46 => e46 = v2 → ∀ (l45 : List Value) (A38 : Option Addr) (c39 : Nat) (w42 : World) (hF43 : Fr [] w0 w42) (hO44 : SlO (encI .u8) 5 1 w0.heap.size w42 A38 c39 t37), Runs Try.prog 31 [.code (c31 [1, 1, 1, 0, 0, 0]), .inLoop (c31 [1, 1, 1, 0, 0, 0]), .inBlock 0, .code (c31 [1, 1, 1, 1])] (fill [none, none, none, some (.int .u64 t36), some (.slice A38 t37.length c39), none, none, none, none, none, none, none, none, none, none, none, none, none, none, none, none, none, none, none, none, none, none, none] l45) w42 R) ?_
    intro rec50 ih49 t36 t37 e46 hb48 he47 l45 A38 c39 w42 hF43 hO44
    refine sx_split 5 (todo' := [.inRegion (opsOf (c31 [1, 1, 1, 0, 0, 0, 0, 0])) [], .code (c31 [1, 1, 1, 0, 0, 0, 0, 1]), .code (c31 [1, 1, 1, 0, 0, 0, 1]), .inLoop (c31 [1, 1, 1, 0, 0, 0]), .inBlock 0, .code (c31 [1, 1, 1, 1])]) (us := [(12, .int .u64 t36)]) (d := 13) (t := (decide (t36 ≥ 128))) (by kernel_rfl) (fun h52 => ?_) (fun h53 => ?_)
    · skip
      have hp54 := ite_t hb48 h52
      refine sx_run 10 (todo' := [.inRegion (opsOf (c31 [1, 1, 1, 0, 0, 0, 1, 0, 0])) [4, 5, 6], .code (c31 [1, 1, 1, 0, 0, 0, 1, 0, 1]), .inBlock 1, .inLoop (c31 [1, 1, 1, 0, 0, 0]), .inBlock 0, .code (c31 [1, 1, 1, 1])]) (us := [(14, .slice A38 t37.length c39), (15, .int .u64 t36), (16, .int .u8 (IntKind.u8.wrap t36)), (17, .int .u8 (bor .u8 (IntKind.u8.wrap t36) 128))]) (by kernel_rfl) ?_
      refine r_lit1 (c := (c31 [1, 1, 1, 0, 0, 0, 1, 0, 0])) (i := 4) (ty := 56) (d := (some 18)) (t := 56) (e := 5) (sz := 1) (x := (.tmp 17)) (v := .int .u8 (bor .u8 (IntKind.u8.wrap t36) 128)) (z := zeroOf Try.prog 5) (cs := [.int .u8 (bor .u8 (IntKind.u8.wrap t36) 128)]) (by kernel_rfl) (by kernel_rfl) (by kernel_rfl) (by kernel_rfl) (by kernel_rfl) (by omega) (by kernel_rfl) (by kernel_rfl) rfl ?_
      intro b55 w56 hn57
      have hn60 : ∀ a, A38 = some a → a.block ≠ b55 := hn57.neo hO44
      have hF61 : Fr [] w0 w56 := hF43.step0 hn57.fr
      have hO62 := hO44.fr0 hn57.fr
      have hb58 : Blk w56 b55 5 ([.int .u8 (bor .u8 (IntKind.u8.wrap t36) 128)]) := hn57.blk
      obtain ⟨g63, hp64⟩ := ite_some hp54
      refine r_append (c := (c31 [1, 1, 1, 0, 0, 0, 1, 0, 0])) (i := 5) (ty := 56) (d := (some 19)) (enc := (encI .u8)) (e := 5) (t := 56) (sz := 1) (bytes := 1) (xs := t37) (ys := [(bor .u8 (IntKind.u8.wrap t36) 128)]) (s := (.tmp 14)) (x := (.tmp 18)) (a := ⟨b55, 0, none⟩) (c2 := 1) (info := infoOf Try.prog 5) (z := zeroOf Try.prog 5) (by kernel_rfl) (by kernel_rfl) (by kernel_rfl) (by kernel_rfl) (by kernel_rfl) (by kernel_rfl) (by kernel_rfl) (by kernel_rfl) (by kernel_rfl) (by kernel_rfl) (by omega) hO62 hF61.size (lit1_cells (enc := (encI .u8)) hb58.cells) (fun _ _ => rfl) (fun _ _ => rfl) g63 (by omega) ?_
      intro A65 c66 w67 hO68 hf69 hr70
      have hF71 : Fr [] w0 w67 := hF61.stepO hf69 hO62
      refine sx_run 8 (todo' := [.inLoop (c31 [1, 1, 1, 0, 0, 0]), .inBlock 0, .code (c31 [1, 1, 1, 1])]) (us := [(4, .slice A65 (t37 ++ [(bor .u8 (IntKind.u8.wrap t36) 128)]).length c66), (20, .int .u64 t36), (21, .int .u64 (shrI .u64 t36 7)), (3, .int .u64 (shrI .u64 t36 7))]) (by kernel_rfl) ?_
      refine sx_run 1 (todo' := [.code (c31 [1, 1, 1, 0, 0, 0]), .inLoop (c31 [1, 1, 1, 0, 0, 0]), .inBlock 0, .code (c31 [1, 1, 1, 1])]) (us := []) (by kernel_rfl) ?_
      refine Runs.fill (m := [none, none, none, some (.int .u64 (shrI .u64 t36 7)), some (.slice A65 (t37 ++ [(bor .u8 (IntKind.u8.wrap t36) 128)]).length c66), none, none, none, none, none, none, none, none, none, none, none, none, none, none, none, none, none, none, none, none, none, none, none]) (by kernel_rfl) ?_
      exact ih49 (shrI .u64 t36 7) (t37 ++ [(bor .u8 (IntKind.u8.wrap t36) 128)]) _ hp64 he47 _ A65 c66 _ hF71 hO68
    · skip
      have hp73 := ite_f hb48 h53
      refine sx_run 3 (todo' := [.code (c31 [1, 1, 1, 1])]) (us := []) (by kernel_rfl) ?_
      refine Runs.fill (m := [none, none, none, some (.int .u64 t36), some (.slice A38 t37.length c39), none, none, none, none, none, none, none, none, none, none, none, none, none, none, none, none, none, none, none, none, none, none, none]) (by kernel_rfl) ?_
      exact J14 t36 t37 ((Option.some.inj hp73).trans he47) _ A38 c39 _ hF43 hO44
  refine Runs.fill (m := [none, none, none, some (.int .u64 (bxor .u64 (IntKind.u64.wrap (shlI .i64 a0 1)) (IntKind.u64.wrap (shrI .i64 a0 63)))), some (.slice none ([] : List Int).length 0), none, none, none, none, none, none, none, none, none, none, none, none, none, none, none, none, none, none, none, none, none, none, none]) (by kernel_rfl) ?_
  exact L51 (bxor .u64 (IntKind.u64.wrap (shlI .i64 a0 1)) (IntKind.u64.wrap (shrI .i64 a0 63))) ([] : List Int) _ hv3 rfl _ none 0 _ hF0 (SlO.none (encI .u8) 5 1 w0.heap.size w0)

noncomputable def c33 (p : List Nat) : Code := sub (bodyOf Try.f33) p
def weirref04_Put.l0 (t45 : Int) (t46 : List Int) : Option (Int × (List Int)) :=
  (if (decide (t45 ≥ 128)) = true then (if (t46.length + 1) * 1 ≤ 140737488355328 then (weirref04_Put.l0 (IntKind.u64.wrap (t45.tdiv 128)) (t46 ++ [(IntKind.u8.wrap ((IntKind.u8.wrap (t45.tmod 128)) + 128))])) else none) else some ((t45, t46)))
 partial_fixpoint
def weirref04_Put.f (a0 : Int) : Option ByteArray :=
  (((if (decide (a0 < 0)) = true then some ((bxor .u64 18446744073709551615 (shlI .u64 (IntKind.u64.wrap a0) 1))) else some ((shlI .u64 (IntKind.u64.wrap a0) 1))) : Option Int) >>= (fun t4 => (weirref04_Put.l0 t4 ([] : List Int) >>= (fun (t14, t15) => (if (t15.length + 1) * 1 ≤ 140737488355328 then some ((ofBytes (t15 ++ [(IntKind.u8.wrap t14)]))) else none)))))
theorem weirref04_Put.ok (a0 : Int) (w0 : World) (r : ByteArray) (hp0 : weirref04_Put.f a0 = some r) :
    Calls Try.prog 33 #[.int .i64 a0] w0 (fun e w' => e = .returned (.string r) ∧ Fr [] w0 w') := by
  refine calls_abs ?_; intro R hR
  unfold weirref04_Put.f at hp0
  have hF0 : Fr [] w0 w0 := Fr.refl _ _
  refine calls_of_runs (fn := Try.f33) (c := c33 []) Try.func33 (by kernel_rfl) (al := [.int .i64 a0]) rfl (n := 28) rfl ?_
  obtain ⟨v1, hv2, hp3⟩ := bind_some' hp0
  have J7 : ∀ (t4 : Int) (he9 : t4 = v1) (l8 : List Value) (w5 : World) (hF6 : Fr [] w0 w5), Runs Try.prog 33 [.code (c33 [1, 1, 1])] (fill [none, none, none, some (.int .u64 t4), none, none, none, none, none, none, none, none, none, none, none, none, none, none, none, none, none, none, none, none, none, none, none, none, none] l8) w5 R := by
    intro t4 he9 l8 w5 hF6
    subst he9
    try dsimp only at hp3
    refine sx_run 7 (todo' := [.code (c33 [1, 1, 1, 1, 0, 0, 0]), .inLoop (c33 [1, 1, 1, 1, 0, 0, 0]), .inBlock 0, .code (c33 [1, 1, 1, 1, 1])]) (us := [(4, .slice none ([] : List Int).length 0)]) (by kernel_rfl) ?_
    obtain ⟨v11, hv12, hp13⟩ := bind_some' hp3
    have J23 : ∀ (t14 : Int) (t15 : List Int) (he25 : (t14, t15) = v11) (l24 : List Value) (A16 : Option Addr) (c17 : Nat) (w20 : World) (hF21 : Fr [] w0 w20) (hO22 : SlO (encI .u8) 5 1 w0.heap.size w20 A16 c17 t15), Runs Try.prog 33 [.code (c33 [1, 1, 1, 1, 1])] (fill [none, none, none, some (.int .u64 t14), some (.slice A16 t15.length c17), none, none, none, none, none, none, none, none, none, none, none, none, none, none, none, none, none, none, none, none, none, none, none, none] l24) w20 R := by
      intro t14 t15 he25 l24 A16 c17 w20 hF21 hO22
      subst he25
      try dsimp only at hp13
      refine sx_run 5 (todo' := [.inRegion (opsOf (c33 [1, 1, 1, 1, 1, 0])) [3, 4, 5, 6], .code (c33 [1, 1, 1, 1, 1, 1])]) (us := [(23, .slice A16 t15.length c17), (24, .int .u64 t14), (25, .int .u8 (IntKind.u8.wrap t14))]) (by kernel_rfl) ?_
      refine r_lit1 (c := (c33 [1, 1, 1, 1, 1, 0])) (i := 3) (ty := 56) (d := (some 26)) (t := 56) (e := 5) (sz := 1) (x := (.tmp 25)) (v := .int .u8 (IntKind.u8.wrap t14)) (z := zeroOf Try.prog 5) (cs := [.int .u8 (IntKind.u8.wrap t14)]) (by kernel_rfl) (by kernel_rfl) (by kernel_rfl) (by kernel_rfl) (by kernel_rfl) (by omega) (by kernel_rfl) (by kernel_rfl) rfl ?_
      intro b26 w27 hn28
      have hn31 : ∀ a, A16 = some a → a.block ≠ b26 := hn28.neo hO22
      have hF32 : Fr [] w0 w27 := hF21.step0 hn28.fr
      have hO33 := hO22.fr0 hn28.fr
      have hb29 : Blk w27 b26 5 ([.int .u8 (IntKind.u8.wrap t14)]) := hn28.blk
      obtain ⟨g34, hp35⟩ := ite_some hp13
      refine r_append (c := (c33 [1, 1, 1, 1, 1, 0])) (i := 4) (ty := 56) (d := (some 27)) (enc := (encI .u8)) (e := 5) (t := 56) (sz := 1) (bytes := 1) (xs := t15) (ys := [(IntKind.u8.wrap t14)]) (s := (.tmp 23)) (x := (.tmp 26)) (a := ⟨b26, 0, none⟩) (c2 := 1) (info := infoOf Try.prog 5) (z := zeroOf Try.prog 5) (by kernel_rfl) (by kernel_rfl) (by kernel_rfl) (by kernel_rfl) (by kernel_rfl) (by kernel_rfl) (by kernel_rfl) (by kernel_rfl) (by kernel_rfl) (by kernel_rfl) (by omega) hO33 hF32.size (lit1_cells (enc := (encI .u8)) hb29.cells) (fun _ _ => rfl) (fun _ _ => rfl) g34 (by omega) ?_
      intro A36 c37 w38 hO39 hf40 hr41
      have hF42 : Fr [] w0 w38 := hF32.stepO hf40 hO33
      refine r_val (c := (c33 [1, 1, 1, 1, 1, 0])) (i := 5) (ty := 9) (d := (some 28)) (op := .convert 56 9 (.tmp 27)) (v := .string (ofBytes (t15 ++ [(IntKind.u8.wrap t14)]))) (by kernel_rfl) (by kernel_rfl) (fun o ho _ => x_bytesStr (e := 5) (A := A36) (c := c37) (by kernel_rfl) hO39.read (by kernel_rfl) (by kernel_rfl) (by kernel_rfl) ho) ?_
      refine sx_run 2 (todo' := [.code (c33 [1, 1, 1, 1, 1, 1])]) (us := [(2, .string (ofBytes (t15 ++ [(IntKind.u8.wrap t14)])))]) (by kernel_rfl) ?_
      refine runs_ret (fn := Try.f33) (v := .string (ofBytes (t15 ++ [(IntKind.u8.wrap t14)]))) Try.func33 (by kernel_rfl) ?_
      have hr44 := (Option.some.inj hp35)
      subst hr44
      exact hR _ _ ⟨rfl, hF42⟩
    have L60 : ∀ (t45 : Int) (t46 : List Int) (e55 : (Int × (List Int))), weirref04_Put.l0 t45 t46 = some e55 → e55 = v11 → ∀ (l54 : List Value) (A47 : Option Addr) (c48 : Nat) (w51 : World) (hF52 : Fr [] w0 w51) (hO53 : SlO (encI .u8) 5 1 w0.heap.size w51 A47 c48 t46), Runs Try.prog 33 [.code (c33 [1, 1, 1, 1, 0, 0, 0]), .inLoop (c33 [1, 1, 1, 1, 0, 0, 0]), .inBlock 0, .code (c33 [1, 1, 1, 1, 1])] (fill [none, none, none, some (.int .u64 t45), some (.slice A47 t46.length c48), none, none, none, none, none, none, none, none, none, none, none, none, none, none, none, none, none, none, none, none, none, none, none, none] l54) w51 R := by
      refine weirref04_Put.l0.partial_correctness (fun t45 t46 e55 => e55 = v11 → ∀ (l54 : List Value) (A47 : Option Addr) (c48 : Nat) (w51 : World) (hF52 : Fr [] w0 w51) (hO53 : SlO (encI .u8) 5 1 w0.heap.size w51 A47 c48 t46), Runs Try.prog 33 [.code (c33 [1, 1, 1, 1, 0, 0, 0]), .inLoop (c33 [1, 1, 1, 1, 0, 0, 0]), .inBlock 0, .code (c33 [1, 1, 1, 1, 1])] (fill [none, none, none, some (.int .u64 t45), some (.slice A47 t46.length c48), none, none, none, none, none, none, none, none, none, none, none, none, none, none, none, none, none, none, none, none, none, none, none, none] l54) w51 R) ?_
      intro rec59 ih58 t45 t46 e55 hb57 he56 l54 A47 c48 w51 hF52 hO53
      refine sx_split 5 (todo' := [.inRegion (opsOf (c33 [1, 1, 1, 1, 0, 0, 0, 0, 0])) [], .code (c33 [1, 1, 1, 1, 0, 0, 0, 0, 1]), .code (c33 [1, 1, 1, 1, 0, 0, 0, 1]), .inLoop (c33 [1, 1, 1, 1, 0, 0, 0]), .inBlock 0, .code (c33 [1, 1, 1, 1, 1])]) (us := [(12, .int .u64 t45)]) (d := 13) (t := (decide (t45 ≥ 128))) (by kernel_rfl) (fun h61 => ?_) (fun h62 => ?_)
      · skip
        have hp63 := ite_t hb57 h61
        refine sx_run 11 (todo' := [.inRegion (opsOf (c33 [1, 1, 1, 1, 0, 0, 0, 1, 0, 0])) [5, 6, 7], .code (c33 [1, 1, 1, 1, 0, 0, 0, 1, 0, 1]), .inBlock 1, .inLoop (c33 [1, 1, 1, 1, 0, 0, 0]), .inBlock 0, .code (c33 [1, 1, 1, 1, 1])]) (us := [(14, .slice A47 t46.length c48), (15, .int .u64 t45), (16, .int .u64 (t45.tmod 128)), (17, .int .u8 (IntKind.u8.wrap (t45.tmod 128))), (18, .int .u8 (IntKind.u8.wrap ((IntKind.u8.wrap (t45.tmod 128)) + 128)))]) (by kernel_rfl) ?_
        refine r_lit1 (c := (c33 [1, 1, 1, 1, 0, 0, 0, 1, 0, 0])) (i := 5) (ty := 56) (d := (some 19)) (t := 56) (e := 5) (sz := 1) (x := (.tmp 18)) (v := .int .u8 (IntKind.u8.wrap ((IntKind.u8.wrap (t45.tmod 128)) + 128))) (z := zeroOf Try.prog 5) (cs := [.int .u8 (IntKind.u8.wrap ((IntKind.u8.wrap (t45.tmod 128)) + 128))]) (by kernel_rfl) (by kernel_rfl) (by kernel_rfl) (by kernel_rfl) (by kernel_rfl) (by omega) (by kernel_rfl) (by kernel_rfl) rfl ?_
        intro b64 w65 hn66
        have hn69 : ∀ a, A47 = some a → a.block ≠ b64 := hn66.neo hO53
        have hF70 : Fr [] w0 w65 := hF52.step0 hn66.fr
        have hO71 := hO53.fr0 hn66.fr
        have hb67 : Blk w65 b64 5 ([.int .u8 (IntKind.u8.wrap ((IntKind.u8.wrap (t45.tmod 128)) + 128))]) := hn66.blk
        obtain ⟨g72, hp73⟩ := ite_some hp63
        refine r_append (c := (c33 [1, 1, 1, 1, 0, 0, 0, 1, 0, 0])) (i := 6) (ty := 56) (d := (some 20)) (enc := (encI .u8)) (e := 5) (t := 56) (sz := 1) (bytes := 1) (xs := t46) (ys := [(IntKind.u8.wrap ((IntKind.u8.wrap (t45.tmod 128)) + 128))]) (s := (.tmp 14)) (x := (.tmp 19)) (a := ⟨b64, 0, none⟩) (c2 := 1) (info := infoOf Try.prog 5) (z := zeroOf Try.prog 5) (by kernel_rfl) (by kernel_rfl) (by kernel_rfl) (by kernel_rfl) (by kernel_rfl) (by kernel_rfl) (by kernel_rfl) (by kernel_rfl) (by kernel_rfl) (by kernel_rfl) (by omega) hO71 hF70.size (lit1_cells (enc := (encI .u8)) hb67.cells) (fun _ _ => rfl) (fun _ _ => rfl) g72 (by omega) ?_
        intro A74 c75 w76 hO77 hf78 hr79
        have hF80 : Fr [] w0 w76 := hF70.stepO hf78 hO71
        refine sx_run 8 (todo' := [.inLoop (c33 [1, 1, 1, 1, 0, 0, 0]), .inBlock 0, .code (c33 [1, 1, 1, 1, 1])]) (us := [(4, .slice A74 (t46 ++ [(IntKind.u8.wrap ((IntKind.u8.wrap (t45.tmod 128)) + 128))]).length c75), (21, .int .u64 t45), (22, .int .u64 (IntKind.u64.wrap (t45.tdiv 128))), (3, .int .u64 (IntKind.u64.wrap (t45.tdiv 128)))]) (by kernel_rfl) ?_
        refine sx_run 1 (todo' := [.code (c33 [1, 1, 1, 1, 0, 0, 0]), .inLoop (c33 [1, 1, 1, 1, 0, 0, 0]), .inBlock 0, .code (c33 [1, 1, 1, 1, 1])]) (us := []) (by kernel_rfl) ?_
        refine Runs.fill (m := [none, none, none, some (.int .u64 (IntKind.u64.wrap (t45.tdiv 128))), some (.slice A74 (t46 ++ [(IntKind.u8.wrap ((IntKind.u8.wrap (t45.tmod 128)) + 128))]).length c75), none, none, none, none, none, none, none, none, none, none, none, none, none, none, none, none, none, none, none, none, none, none, none, none]) (by kernel_rfl) ?_
        exact ih58 (IntKind.u64.wrap (t45.tdiv 128)) (t46 ++ [(IntKind.u8.wrap ((IntKind.u8.wrap (t45.tmod 128)) + 128))]) _ hp73 he56 _ A74 c75 _ hF80 hO77
      · skip
        have hp82 := ite_f hb57 h62
        refine sx_run 3 (todo' := [.code (c33 [1, 1, 1, 1, 1])]) (us := []) (by kernel_rfl) ?_
        refine Runs.fill (m := [none, none, none, some (.int .u64 t45), some (.slice A47 t46.length c48), none, none, none, none, none, none, none, none, none, none, none, none, none, none, none, none, none, none, none, none, none, none, none, none]) (by kernel_rfl) ?_
        exact J23 t45 t46 ((Option.some.inj hp82).trans he56) _ A47 c48 _ hF52 hO53
    refine Runs.fill (m := [none, none, none, some (.int .u64 t4), some (.slice none ([] : List Int).length 0), none, none, none, none, none, none, none, none, none, none, none, none, none, none, none, none, none, none, none, none, none, none, none, none]) (by kernel_rfl) ?_
    exact L60 t4 ([] : List Int) _ hv12 rfl _ none 0 _ hF6 (SlO.none (encI .u8) 5 1 w0.heap.size w5)
  refine sx_split 16 (todo' := [.inRegion (opsOf (c33 [1, 1, 0, 0])) [], .code (c33 [1, 1, 0, 1]), .code (c33 [1, 1, 1])]) (us := [(2, .string (⟨#[]⟩ : ByteArray)), (5, .int .i64 a0), (6, .int .u64 (IntKind.u64.wrap a0)), (7, .int .u64 (shlI .u64 (IntKind.u64.wrap a0) 1)), (3, .int .u64 (shlI .u64 (IntKind.u64.wrap a0) 1)), (8, .int .i64 a0)]) (d := 9) (t := (decide (a0 < 0))) (by kernel_rfl) (fun h83 => ?_) (fun h84 => ?_)
  · skip
    have hp85 := ite_t hv2 h83
    refine sx_run 7 (todo' := [.code (c33 [1, 1, 1])]) (us := [(10, .int .u64 (shlI .u64 (IntKind.u64.wrap a0) 1)), (11, .int .u64 (bxor .u64 18446744073709551615 (shlI .u64 (IntKind.u64.wrap a0) 1))), (3, .int .u64 (bxor .u64 18446744073709551615 (shlI .u64 (IntKind.u64.wrap a0) 1)))]) (by kernel_rfl) ?_
    refine Runs.fill (m := [none, none, none, some (.int .u64 (bxor .u64 18446744073709551615 (shlI .u64 (IntKind.u64.wrap a0) 1))), none, none, none, none, none, none, none, none, none, none, none, none, none, none, none, none, none, none, none, none, none, none, none, none, none]) (by kernel_rfl) ?_
    exact J7 (bxor .u64 18446744073709551615 (shlI .u64 (IntKind.u64.wrap a0) 1)) (Option.some.inj hp85) _ _ hF0
  · skip
    have hp86 := ite_f hv2 h84
    refine sx_run 3 (todo' := [.code (c33 [1, 1, 1])]) (us := []) (by kernel_rfl) ?_
    refine Runs.fill (m := [none, none, none, some (.int .u64 (shlI .u64 (IntKind.u64.wrap a0) 1)), none, none, none, none, none, none, none, none, none, none, none, none, none, none, none, none, none, none, none, none, none, none, none, none, none]) (by kernel_rfl) ?_
    exact J7 (shlI .u64 (IntKind.u64.wrap a0) 1) (Option.some.inj hp86) _ _ hF0

noncomputable def c34 (p : List Nat) : Code := sub (bodyOf Try.f34) p
def word_Take.l0 (a0 : ByteArray) (a1 : Int) (t21 : Int) (t22 : Int) : Option (Sum Unit (Int × Int × Int)) :=
  (if (decide (t22 < 10)) = true then (if (decide ((IntKind.i64.wrap (a1 + t22)) < (a0.size : Int))) = true then (if 0 ≤ (IntKind.i64.wrap (a1 + t22)) ∧ (IntKind.i64.wrap (a1 + t22)) < (a0.size : Int) then (((if (t22 == 9) = true then (if (decide ((byt a0 (IntKind.i64.wrap (a1 + t22))) > 1)) = true then some (.inr (.inl ())) else some (.inl ())) else some (.inl ())) : Option (Sum Unit (Sum Unit (Int × Int × Int)))) >>= (fun | .inl () => (if 0 ≤ (IntKind.i64.wrap (7 * t22)) then (if (decide ((byt a0 (IntKind.i64.wrap (a1 + t22))) < 128)) = true then (((if ((byt a0 (IntKind.i64.wrap (a1 + t22))) == 0) = true then (if (decide (t22 > 0)) = true then some (.inr (.inl ())) else some (.inl ())) else some (.inl ())) : Option (Sum Unit (Sum Unit (Int × Int × Int)))) >>= (fun | .inl () => some (.inr (((bxor .i64 (IntKind.i64.wrap (shrI .u64 (bor .u64 t21 (shlI .u64 (IntKind.u64.wrap (band .u8 (byt a0 (IntKind.i64.wrap (a1 + t22))) 127)) (IntKind.i64.wrap (7 * t22)))) 1)) (IntKind.i64.wrap (0 - (IntKind.i64.wrap (band .u64 (bor .u64 t21 (shlI .u64 (IntKind.u64.wrap (band .u8 (byt a0 (IntKind.i64.wrap (a1 + t22))) 127)) (IntKind.i64.wrap (7 * t22)))) 1))))), (IntKind.i64.wrap (t22 + 1)), 0))) | .inr e => some e)) else (word_Take.l0 a0 a1 (bor .u64 t21 (shlI .u64 (IntKind.u64.wrap (band .u8 (byt a0 (IntKind.i64.wrap (a1 + t22))) 127)) (IntKind.i64.wrap (7 * t22)))) (IntKind.i64.wrap (t22 + 1)))) else none) | .inr e => some e)) else none) else some (.inl ())) else some (.inl ()))
 partial_fixpoint
def word_Take.f (a0 : ByteArray) (a1 : Int) : Option (Int × Int × Int) :=
  (if (decide (a1 < 0)) = true then some ((0, 0, 40)) else (if (decide (a1 ≥ (a0.size : Int))) = true then some ((0, 0, 40)) else (word_Take.l0 a0 a1 0 0 >>= (fun | .inl () => some ((0, 0, 40)) | .inr e => some e))))
theorem word_Take.ok (a0 : ByteArray) (a1 : Int) (w0 : World) (r : Int × Int × Int) (hp0 : word_Take.f a0 a1 = some r) :
    Calls Try.prog 34 #[.string a0, .int .i64 a1] w0 (fun e w' => e = .returned (.tuple #[.int .i64 r.1, .int .i64 r.2.1, .int .i64 r.2.2]) ∧ Fr [] w0 w') := by
  refine calls_abs ?_; intro R hR
  unfold word_Take.f at hp0
  have hF0 : Fr [] w0 w0 := Fr.refl _ _
  refine calls_of_runs (fn := Try.f34) (c := c34 []) Try.func34 (by kernel_rfl) (al := [.string a0, .int .i64 a1]) rfl (n := 65) rfl ?_
  refine sx_split 11 (todo' := [.inRegion (opsOf (c34 [1, 0, 0])) [2, 3, 4, 5, 6, 7], .code (c34 [1, 0, 1]), .code (c34 [1, 1])]) (us := [(4, .int .i64 0), (5, .int .i64 0), (6, .int .i64 0), (10, .int .i64 a1)]) (d := 11) (t := (decide (a1 < 0))) (by kernel_rfl) (fun h1 => ?_) (fun h2 => ?_)
  · skip
    have hp3 := ite_t hp0 h1
    refine sx_run 14 (todo' := [.code (c34 [1, 0, 1, 0, 1]), .code (c34 [1, 1])]) (us := [(12, .bool true), (13, undef), (14, undef), (15, undef), (16, undef), (17, .bool true), (4, .int .i64 0), (5, .int .i64 0), (6, .int .i64 40)]) (by kernel_rfl) ?_
    refine runs_ret (fn := Try.f34) (v := .tuple #[.int .i64 0, .int .i64 0, .int .i64 40]) Try.func34 (by kernel_rfl) ?_
    have hr4 := (Option.some.inj hp3)
    subst hr4
    exact hR _ _ ⟨rfl, hF0⟩
  · skip
    have hp5 := ite_f hp0 h2
    refine sx_split 5 (todo' := [.inRegion (opsOf (c34 [1, 0, 0])) [7], .code (c34 [1, 0, 1]), .code (c34 [1, 1])]) (us := [(12, .bool false), (13, .int .i64 a1), (14, .string a0), (15, .int .i64 (a0.size : Int))]) (d := 16) (t := (decide (a1 ≥ (a0.size : Int)))) (by kernel_rfl) (fun h6 => ?_) (fun h7 => ?_)
    · skip
      have hp8 := ite_t hp5 h6
      refine sx_run 9 (todo' := [.code (c34 [1, 0, 1, 0, 1]), .code (c34 [1, 1])]) (us := [(17, .bool true), (4, .int .i64 0), (5, .int .i64 0), (6, .int .i64 40)]) (by kernel_rfl) ?_
      refine runs_ret (fn := Try.f34) (v := .tuple #[.int .i64 0, .int .i64 0, .int .i64 40]) Try.func34 (by kernel_rfl) ?_
      have hr9 := (Option.some.inj hp8)
      subst hr9
      exact hR _ _ ⟨rfl, hF0⟩
    · skip
      have hp10 := ite_f hp5 h7
      refine sx_run 15 (todo' := [.code (c34 [1, 1, 1, 0, 1, 0, 0]), .inLoop (c34 [1, 1, 1, 0, 1, 0, 0]), .inBlock 0, .code (c34 [1, 1, 1, 1])]) (us := [(17, .bool false), (7, .int .u64 0), (8, .int .i64 0)]) (by kernel_rfl) ?_
      obtain ⟨v11, hv12, hp13⟩ := bind_some' hp10
      have hq16 : ∀ x, Sum.inr x = v11 → x = r := by intro x hx; subst hx; simpa using hp13
      have J17 : ∀ (he19 : Sum.inl () = v11) (l18 : List Value) (w14 : World) (hF15 : Fr [] w0 w14), Runs Try.prog 34 [.code (c34 [1, 1, 1, 1])] (fill [none, none, none, none, none, none, none, none, none, none, none, none, none, none, none, none, none, none, none, none, none, none, none, none, none, none, none, none, none, none, none, none, none, none, none, none, none, none, none, none, none, none, none, none, none, none, none, none, none, none, none, none, none, none, none, none, none, none, none, none, none, none, none, none, none, none, none] l18) w14 R := by
        intro he19 l18 w14 hF15
        subst he19
        try dsimp only at hp13
        refine sx_run 6 (todo' := [.code (c34 [1, 1, 1, 1, 1])]) (us := [(4, .int .i64 0), (5, .int .i64 0), (6, .int .i64 40)]) (by kernel_rfl) ?_
        refine runs_ret (fn := Try.f34) (v := .tuple #[.int .i64 0, .int .i64 0, .int .i64 40]) Try.func34 (by kernel_rfl) ?_
        have hr20 := (Option.some.inj hp13)
        subst hr20
        exact hR _ _ ⟨rfl, hF15⟩
      have L31 : ∀ (t21 : Int) (t22 : Int) (e26 : Sum Unit (Int × Int × Int)), word_Take.l0 a0 a1 t21 t22 = some e26 → e26 = v11 → ∀ (l25 : List Value) (w23 : World) (hF24 : Fr [] w0 w23), Runs Try.prog 34 [.code (c34 [1, 1, 1, 0, 1, 0, 0]), .inLoop (c34 [1, 1, 1, 0, 1, 0, 0]), .inBlock 0, .code (c34 [1, 1, 1, 1])] (fill [some (.string a0), some (.int .i64 a1), none, none, none, none, none, some (.int .u64 t21), some (.int .i64 t22), none, none, none, none, none, none, none, none, none, none, none, none, none, none, none, none, none, none, none, none, none, none, none, none, none, none, none, none, none, none, none, none, none, none, none, none, none, none, none, none, none, none, none, none, none, none, none, none, none, none, none, none, none, none, none, none, none, none] l25) w23 R := by
        refine word_Take.l0.partial_correctness a0 a1 (fun t21 t22 e26 => e26 = v11 → ∀ (l25 : List Value) (w23 : World) (hF24 : Fr [] w0 w23), Runs Try.prog 34 [.code (c34 [1, 1, 1, 0, 1, 0, 0]), .inLoop (c34 [1, 1, 1, 0, 1, 0, 0]), .inBlock 0, .code (c34 [1, 1, 1, 1])] (fill [some (.string a0), some (.int .i64 a1), none, none, none, none, none, some (.int .u64 t21), some (.int .i64 t22), none, none, none, none, none, none, none, none, none, none, none, none, none, none, none, none, none, none, none, none, none, none, none, none, none, none, none, none, none, none, none, none, none, none, none, none, none, none, none, none, none, none, none, none, none, none, none, none, none, none, none, none, none, none, none, none, none, none] l25) w23 R) ?_
        intro rec30 ih29 t21 t22 e26 hb28 he27 l25 w23 hF24
        have hq32 : ∀ x, Sum.inr x = e26 → x = r := fun x hx => hq16 x (hx.trans he27)
        refine sx_split 5 (todo' := [.inRegion (opsOf (c34 [1, 1, 1, 0, 1, 0, 0, 0, 0])) [2, 3, 4, 5, 6, 7, 8, 9], .code (c34 [1, 1, 1, 0, 1, 0, 0, 0, 1]), .code (c34 [1, 1, 1, 0, 1, 0, 0, 1]), .inLoop (c34 [1, 1, 1, 0, 1, 0, 0]), .inBlock 0, .code (c34 [1, 1, 1, 1])]) (us := [(18, .int .i64 t22)]) (d := 19) (t := (decide (t22 < 10))) (by kernel_rfl) (fun h33 => ?_) (fun h34 => ?_)
        · skip
          have hp35 := ite_t hb28 h33
          refine sx_split 7 (todo' := [.inRegion (opsOf (c34 [1, 1, 1, 0, 1, 0, 0, 0, 0])) [9], .code (c34 [1, 1, 1, 0, 1, 0, 0, 0, 1]), .code (c34 [1, 1, 1, 0, 1, 0, 0, 1]), .inLoop (c34 [1, 1, 1, 0, 1, 0, 0]), .inBlock 0, .code (c34 [1, 1, 1, 1])]) (us := [(20, .bool true), (21, .int .i64 a1), (22, .int .i64 t22), (23, .int .i64 (IntKind.i64.wrap (a1 + t22))), (24, .string a0), (25, .int .i64 (a0.size : Int))]) (d := 26) (t := (decide ((IntKind.i64.wrap (a1 + t22)) < (a0.size : Int)))) (by kernel_rfl) (fun h36 => ?_) (fun h37 => ?_)
          · skip
            have hp38 := ite_t hp35 h36
            refine sx_run 12 (todo' := [.inRegion (opsOf (c34 [1, 1, 1, 0, 1, 0, 0, 1, 0, 0, 0])) [4, 5], .code (c34 [1, 1, 1, 0, 1, 0, 0, 1, 0, 0, 1]), .inBlock 1, .code (c34 [1, 1, 1, 0, 1, 0, 0, 1, 1]), .inLoop (c34 [1, 1, 1, 0, 1, 0, 0]), .inBlock 0, .code (c34 [1, 1, 1, 1])]) (us := [(27, .bool true), (30, .string a0), (31, .int .i64 a1), (32, .int .i64 t22), (33, .int .i64 (IntKind.i64.wrap (a1 + t22)))]) (by kernel_rfl) ?_
            obtain ⟨g39, hp40⟩ := ite_some hp38
            refine r_val (c := (c34 [1, 1, 1, 0, 1, 0, 0, 1, 0, 0, 0])) (i := 4) (ty := 5) (d := (some 34)) (op := .index 9 (.tmp 30) (.tmp 33)) (v := .int .u8 (byt a0 (IntKind.i64.wrap (a1 + t22)))) (by kernel_rfl) (by kernel_rfl) (fun o ho _ => x_indexStr (kk := .i64) (by kernel_rfl) (by kernel_rfl) (by kernel_rfl) g39.1 g39.2 ho) ?_
            obtain ⟨v41, hv42, hp43⟩ := bind_some' hp40
            have hq46 : ∀ x, Sum.inr x = v41 → x = e26 := by intro x hx; subst hx; simpa using hp43
            have J47 : ∀ (he49 : Sum.inl () = v41) (l48 : List Value) (w44 : World) (hF45 : Fr [] w0 w44), Runs Try.prog 34 [.code (c34 [1, 1, 1, 0, 1, 0, 0, 1, 0, 0, 1, 1]), .inBlock 1, .code (c34 [1, 1, 1, 0, 1, 0, 0, 1, 1]), .inLoop (c34 [1, 1, 1, 0, 1, 0, 0]), .inBlock 0, .code (c34 [1, 1, 1, 1])] (fill [some (.string a0), some (.int .i64 a1), none, none, none, none, none, some (.int .u64 t21), some (.int .i64 t22), some (.int .u8 (byt a0 (IntKind.i64.wrap (a1 + t22)))), none, none, none, none, none, none, none, none, none, none, none, none, none, none, none, none, none, none, none, none, none, none, none, none, none, none, none, none, none, none, none, none, none, none, none, none, none, none, none, none, none, none, none, none, none, none, none, none, none, none, none, none, none, none, none, none, none] l48) w44 R := by
              intro he49 l48 w44 hF45
              subst he49
              try dsimp only at hp43
              refine sx_run 8 (todo' := [.inRegion (opsOf (c34 [1, 1, 1, 0, 1, 0, 0, 1, 0, 0, 1, 1, 0])) [6, 7, 8], .code (c34 [1, 1, 1, 0, 1, 0, 0, 1, 0, 0, 1, 1, 1]), .inBlock 1, .code (c34 [1, 1, 1, 0, 1, 0, 0, 1, 1]), .inLoop (c34 [1, 1, 1, 0, 1, 0, 0]), .inBlock 0, .code (c34 [1, 1, 1, 1])]) (us := [(41, .int .u64 t21), (42, .int .u8 (byt a0 (IntKind.i64.wrap (a1 + t22)))), (43, .int .u8 (band .u8 (byt a0 (IntKind.i64.wrap (a1 + t22))) 127)), (44, .int .u64 (IntKind.u64.wrap (band .u8 (byt a0 (IntKind.i64.wrap (a1 + t22))) 127))), (45, .int .i64 t22), (46, .int .i64 (IntKind.i64.wrap (7 * t22)))]) (by kernel_rfl) ?_
              obtain ⟨g50, hp51⟩ := ite_some hp43
              refine r_val (c := (c34 [1, 1, 1, 0, 1, 0, 0, 1, 0, 0, 1, 1, 0])) (i := 6) (ty := 76) (d := (some 47)) (op := .binOp .shl 76 (.tmp 44) (.tmp 46) 3) (v := .int .u64 (shlI .u64 (IntKind.u64.wrap (band .u8 (byt a0 (IntKind.i64.wrap (a1 + t22))) 127)) (IntKind.i64.wrap (7 * t22)))) (by kernel_rfl) (by kernel_rfl) (fun o ho _ => (x_shift (kk := .i64) (by kernel_rfl) (by kernel_rfl) g50).1 ho) ?_
              refine sx_split 7 (todo' := [.inRegion (opsOf (c34 [1, 1, 1, 0, 1, 0, 0, 1, 0, 0, 1, 1, 1, 0])) [], .code (c34 [1, 1, 1, 0, 1, 0, 0, 1, 0, 0, 1, 1, 1, 1]), .inBlock 1, .code (c34 [1, 1, 1, 0, 1, 0, 0, 1, 1]), .inLoop (c34 [1, 1, 1, 0, 1, 0, 0]), .inBlock 0, .code (c34 [1, 1, 1, 1])]) (us := [(48, .int .u64 (bor .u64 t21 (shlI .u64 (IntKind.u64.wrap (band .u8 (byt a0 (IntKind.i64.wrap (a1 + t22))) 127)) (IntKind.i64.wrap (7 * t22))))), (7, .int .u64 (bor .u64 t21 (shlI .u64 (IntKind.u64.wrap (band .u8 (byt a0 (IntKind.i64.wrap (a1 + t22))) 127)) (IntKind.i64.wrap (7 * t22))))), (49, .int .u8 (byt a0 (IntKind.i64.wrap (a1 + t22))))]) (d := 50) (t := (decide ((byt a0 (IntKind.i64.wrap (a1 + t22))) < 128))) (by kernel_rfl) (fun h52 => ?_) (fun h53 => ?_)
              · skip
                have hp54 := ite_t hp51 h52
                obtain ⟨v55, hv56, hp57⟩ := bind_some' hp54
                have hq60 : ∀ x, Sum.inr x = v55 → x = e26 := by intro x hx; subst hx; simpa using hp57
                have J61 : ∀ (he63 : Sum.inl () = v55) (l62 : List Value) (w58 : World) (hF59 : Fr [] w0 w58), Runs Try.prog 34 [.code (c34 [1, 1, 1, 0, 1, 0, 0, 1, 0, 0, 1, 1, 1, 1, 0, 1]), .inBlock 1, .code (c34 [1, 1, 1, 0, 1, 0, 0, 1, 1]), .inLoop (c34 [1, 1, 1, 0, 1, 0, 0]), .inBlock 0, .code (c34 [1, 1, 1, 1])] (fill [none, none, none, none, none, none, none, some (.int .u64 (bor .u64 t21 (shlI .u64 (IntKind.u64.wrap (band .u8 (byt a0 (IntKind.i64.wrap (a1 + t22))) 127)) (IntKind.i64.wrap (7 * t22))))), some (.int .i64 t22), none, none, none, none, none, none, none, none, none, none, none, none, none, none, none, none, none, none, none, none, none, none, none, none, none, none, none, none, none, none, none, none, none, none, none, none, none, none, none, none, none, none, none, none, none, none, none, none, none, none, none, none, none, none, none, none, none, none] l62) w58 R := by
                  intro he63 l62 w58 hF59
                  subst he63
                  try dsimp only at hp57
                  refine sx_run 16 (todo' := [.code (c34 [1, 1, 1, 0, 1, 0, 0, 1, 0, 0, 1, 1, 1, 1, 0, 1, 1]), .inBlock 1, .code (c34 [1, 1, 1, 0, 1, 0, 0, 1, 1]), .inLoop (c34 [1, 1, 1, 0, 1, 0, 0]), .inBlock 0, .code (c34 [1, 1, 1, 1])]) (us := [(57, .int .u64 (bor .u64 t21 (shlI .u64 (IntKind.u64.wrap (band .u8 (byt a0 (IntKind.i64.wrap (a1 + t22))) 127)) (IntKind.i64.wrap (7 * t22))))), (58, .int .u64 (shrI .u64 (bor .u64 t21 (shlI .u64 (IntKind.u64.wrap (band .u8 (byt a0 (IntKind.i64.wrap (a1 + t22))) 127)) (IntKind.i64.wrap (7 * t22)))) 1)), (59, .int .i64 (IntKind.i64.wrap (shrI .u64 (bor .u64 t21 (shlI .u64 (IntKind.u64.wrap (band .u8 (byt a0 (IntKind.i64.wrap (a1 + t22))) 127)) (IntKind.i64.wrap (7 * t22)))) 1))), (60, .int .u64 (bor .u64 t21 (shlI .u64 (IntKind.u64.wrap (band .u8 (byt a0 (IntKind.i64.wrap (a1 + t22))) 127)) (IntKind.i64.wrap (7 * t22))))), (61, .int .u64 (band .u64 (bor .u64 t21 (shlI .u64 (IntKind.u64.wrap (band .u8 (byt a0 (IntKind.i64.wrap (a1 + t22))) 127)) (IntKind.i64.wrap (7 * t22)))) 1)), (62, .int .i64 (IntKind.i64.wrap (band .u64 (bor .u64 t21 (shlI .u64 (IntKind.u64.wrap (band .u8 (byt a0 (IntKind.i64.wrap (a1 + t22))) 127)) (IntKind.i64.wrap (7 * t22)))) 1))), (63, .int .i64 (IntKind.i64.wrap (0 - (IntKind.i64.wrap (band .u64 (bor .u64 t21 (shlI .u64 (IntKind.u64.wrap (band .u8 (byt a0 (IntKind.i64.wrap (a1 + t22))) 127)) (IntKind.i64.wrap (7 * t22)))) 1))))), (64, .int .i64 (bxor .i64 (IntKind.i64.wrap (shrI .u64 (bor .u64 t21 (shlI .u64 (IntKind.u64.wrap (band .u8 (byt a0 (IntKind.i64.wrap (a1 + t22))) 127)) (IntKind.i64.wrap (7 * t22)))) 1)) (IntKind.i64.wrap (0 - (IntKind.i64.wrap (band .u64 (bor .u64 t21 (shlI .u64 (IntKind.u64.wrap (band .u8 (byt a0 (IntKind.i64.wrap (a1 + t22))) 127)) (IntKind.i64.wrap (7 * t22)))) 1)))))), (65, .int .i64 t22), (66, .int .i64 (IntKind.i64.wrap (t22 + 1))), (4, .int .i64 (bxor .i64 (IntKind.i64.wrap (shrI .u64 (bor .u64 t21 (shlI .u64 (IntKind.u64.wrap (band .u8 (byt a0 (IntKind.i64.wrap (a1 + t22))) 127)) (IntKind.i64.wrap (7 * t22)))) 1)) (IntKind.i64.wrap (0 - (IntKind.i64.wrap (band .u64 (bor .u64 t21 (shlI .u64 (IntKind.u64.wrap (band .u8 (byt a0 (IntKind.i64.wrap (a1 + t22))) 127)) (IntKind.i64.wrap (7 * t22)))) 1)))))), (5, .int .i64 (IntKind.i64.wrap (t22 + 1))), (6, .int .i64 0)]) (by kernel_rfl) ?_
                  refine runs_ret (fn := Try.f34) (v := .tuple #[.int .i64 (bxor .i64 (IntKind.i64.wrap (shrI .u64 (bor .u64 t21 (shlI .u64 (IntKind.u64.wrap (band .u8 (byt a0 (IntKind.i64.wrap (a1 + t22))) 127)) (IntKind.i64.wrap (7 * t22)))) 1)) (IntKind.i64.wrap (0 - (IntKind.i64.wrap (band .u64 (bor .u64 t21 (shlI .u64 (IntKind.u64.wrap (band .u8 (byt a0 (IntKind.i64.wrap (a1 + t22))) 127)) (IntKind.i64.wrap (7 * t22)))) 1))))), .int .i64 (IntKind.i64.wrap (t22 + 1)), .int .i64 0]) Try.func34 (by kernel_rfl) ?_
                  have hr64 := (hq32 _ (Option.some.inj hp57))
                  subst hr64
                  exact hR _ _ ⟨rfl, hF59⟩
                refine sx_split 7 (todo' := [.inRegion (opsOf (c34 [1, 1, 1, 0, 1, 0, 0, 1, 0, 0, 1, 1, 1, 1, 0, 0, 0])) [2, 3, 4, 5], .code (c34 [1, 1, 1, 0, 1, 0, 0, 1, 0, 0, 1, 1, 1, 1, 0, 0, 1]), .code (c34 [1, 1, 1, 0, 1, 0, 0, 1, 0, 0, 1, 1, 1, 1, 0, 1]), .inBlock 1, .code (c34 [1, 1, 1, 0, 1, 0, 0, 1, 1]), .inLoop (c34 [1, 1, 1, 0, 1, 0, 0]), .inBlock 0, .code (c34 [1, 1, 1, 1])]) (us := [(51, .int .u8 (byt a0 (IntKind.i64.wrap (a1 + t22))))]) (d := 52) (t := ((byt a0 (IntKind.i64.wrap (a1 + t22))) == 0)) (by kernel_rfl) (fun h65 => ?_) (fun h66 => ?_)
                · skip
                  have hp67 := ite_t hv56 h65
                  refine sx_split 3 (todo' := [.inRegion (opsOf (c34 [1, 1, 1, 0, 1, 0, 0, 1, 0, 0, 1, 1, 1, 1, 0, 0, 0])) [5], .code (c34 [1, 1, 1, 0, 1, 0, 0, 1, 0, 0, 1, 1, 1, 1, 0, 0, 1]), .code (c34 [1, 1, 1, 0, 1, 0, 0, 1, 0, 0, 1, 1, 1, 1, 0, 1]), .inBlock 1, .code (c34 [1, 1, 1, 0, 1, 0, 0, 1, 1]), .inLoop (c34 [1, 1, 1, 0, 1, 0, 0]), .inBlock 0, .code (c34 [1, 1, 1, 1])]) (us := [(53, .bool true), (54, .int .i64 t22)]) (d := 55) (t := (decide (t22 > 0))) (by kernel_rfl) (fun h68 => ?_) (fun h69 => ?_)
                  · skip
                    have hp70 := ite_t hp67 h68
                    refine sx_run 4 (todo' := [.code (c34 [1, 1, 1, 1])]) (us := [(56, .bool true)]) (by kernel_rfl) ?_
                    refine Runs.fill (m := [none, none, none, none, none, none, none, none, none, none, none, none, none, none, none, none, none, none, none, none, none, none, none, none, none, none, none, none, none, none, none, none, none, none, none, none, none, none, none, none, none, none, none, none, none, none, none, none, none, none, none, none, none, none, none, none, none, none, none, none, none, none, none, none, none, none, none]) (by kernel_rfl) ?_
                    exact J17 ((hq60 _ (Option.some.inj hp70)).trans he27) _ _ hF45
                  · skip
                    have hp71 := ite_f hp67 h69
                    refine sx_run 4 (todo' := [.code (c34 [1, 1, 1, 0, 1, 0, 0, 1, 0, 0, 1, 1, 1, 1, 0, 1]), .inBlock 1, .code (c34 [1, 1, 1, 0, 1, 0, 0, 1, 1]), .inLoop (c34 [1, 1, 1, 0, 1, 0, 0]), .inBlock 0, .code (c34 [1, 1, 1, 1])]) (us := [(56, .bool false)]) (by kernel_rfl) ?_
                    refine Runs.fill (m := [none, none, none, none, none, none, none, some (.int .u64 (bor .u64 t21 (shlI .u64 (IntKind.u64.wrap (band .u8 (byt a0 (IntKind.i64.wrap (a1 + t22))) 127)) (IntKind.i64.wrap (7 * t22))))), some (.int .i64 t22), none, none, none, none, none, none, none, none, none, none, none, none, none, none, none, none, none, none, none, none, none, none, none, none, none, none, none, none, none, none, none, none, none, none, none, none, none, none, none, none, none, none, none, none, none, none, none, none, none, none, none, none, none, none, none, none, none, none]) (by kernel_rfl) ?_
                    exact J61 (Option.some.inj hp71) _ _ hF45
                · skip
                  have hp72 := ite_f hv56 h66
                  refine sx_run 7 (todo' := [.code (c34 [1, 1, 1, 0, 1, 0, 0, 1, 0, 0, 1, 1, 1, 1, 0, 1]), .inBlock 1, .code (c34 [1, 1, 1, 0, 1, 0, 0, 1, 1]), .inLoop (c34 [1, 1, 1, 0, 1, 0, 0]), .inBlock 0, .code (c34 [1, 1, 1, 1])]) (us := [(53, .bool false), (54, undef), (55, undef), (56, .bool false)]) (by kernel_rfl) ?_
                  refine Runs.fill (m := [none, none, none, none, none, none, none, some (.int .u64 (bor .u64 t21 (shlI .u64 (IntKind.u64.wrap (band .u8 (byt a0 (IntKind.i64.wrap (a1 + t22))) 127)) (IntKind.i64.wrap (7 * t22))))), some (.int .i64 t22), none, none, none, none, none, none, none, none, none, none, none, none, none, none, none, none, none, none, none, none, none, none, none, none, none, none, none, none, none, none, none, none, none, none, none, none, none, none, none, none, none, none, none, none, none, none, none, none, none, none, none, none, none, none, none, none, none, none]) (by kernel_rfl) ?_
                  exact J61 (Option.some.inj hp72) _ _ hF45
              · skip
                have hp73 := ite_f hp51 h53
                refine sx_run 9 (todo' := [.inLoop (c34 [1, 1, 1, 0, 1, 0, 0]), .inBlock 0, .code (c34 [1, 1, 1, 1])]) (us := [(28, .int .i64 t22), (29, .int .i64 (IntKind.i64.wrap (t22 + 1))), (8, .int .i64 (IntKind.i64.wrap (t22 + 1)))]) (by kernel_rfl) ?_
                refine sx_run 1 (todo' := [.code (c34 [1, 1, 1, 0, 1, 0, 0]), .inLoop (c34 [1, 1, 1, 0, 1, 0, 0]), .inBlock 0, .code (c34 [1, 1, 1, 1])]) (us := []) (by kernel_rfl) ?_
                refine Runs.fill (m := [some (.string a0), some (.int .i64 a1), none, none, none, none, none, some (.int .u64 (bor .u64 t21 (shlI .u64 (IntKind.u64.wrap (band .u8 (byt a0 (IntKind.i64.wrap (a1 + t22))) 127)) (IntKind.i64.wrap (7 * t22))))), some (.int .i64 (IntKind.i64.wrap (t22 + 1))), none, none, none, none, none, none, none, none, none, none, none, none, none, none, none, none, none, none, none, none, none, none, none, none, none, none, none, none, none, none, none, none, none, none, none, none, none, none, none, none, none, none, none, none, none, none, none, none, none, none, none, none, none, none, none, none, none, none]) (by kernel_rfl) ?_
                exact ih29 (bor .u64 t21 (shlI .u64 (IntKind.u64.wrap (band .u8 (byt a0 (IntKind.i64.wrap (a1 + t22))) 127)) (IntKind.i64.wrap (7 * t22)))) (IntKind.i64.wrap (t22 + 1)) _ hp73 he27 _ _ hF45
            refine sx_split 7 (todo' := [.inRegion (opsOf (c34 [1, 1, 1, 0, 1, 0, 0, 1, 0, 0, 1, 0, 0])) [2, 3, 4, 5], .code (c34 [1, 1, 1, 0, 1, 0, 0, 1, 0, 0, 1, 0, 1]), .code (c34 [1, 1, 1, 0, 1, 0, 0, 1, 0, 0, 1, 1]), .inBlock 1, .code (c34 [1, 1, 1, 0, 1, 0, 0, 1, 1]), .inLoop (c34 [1, 1, 1, 0, 1, 0, 0]), .inBlock 0, .code (c34 [1, 1, 1, 1])]) (us := [(9, .int .u8 (byt a0 (IntKind.i64.wrap (a1 + t22)))), (35, .int .i64 t22)]) (d := 36) (t := (t22 == 9)) (by kernel_rfl) (fun h74 => ?_) (fun h75 => ?_)
            · skip
              have hp76 := ite_t hv42 h74
              refine sx_split 3 (todo' := [.inRegion (opsOf (c34 [1, 1, 1, 0, 1, 0, 0, 1, 0, 0, 1, 0, 0])) [5], .code (c34 [1, 1, 1, 0, 1, 0, 0, 1, 0, 0, 1, 0, 1]), .code (c34 [1, 1, 1, 0, 1, 0, 0, 1, 0, 0, 1, 1]), .inBlock 1, .code (c34 [1, 1, 1, 0, 1, 0, 0, 1, 1]), .inLoop (c34 [1, 1, 1, 0, 1, 0, 0]), .inBlock 0, .code (c34 [1, 1, 1, 1])]) (us := [(37, .bool true), (38, .int .u8 (byt a0 (IntKind.i64.wrap (a1 + t22))))]) (d := 39) (t := (decide ((byt a0 (IntKind.i64.wrap (a1 + t22))) > 1))) (by kernel_rfl) (fun h77 => ?_) (fun h78 => ?_)
              · skip
                have hp79 := ite_t hp76 h77
                refine sx_run 4 (todo' := [.code (c34 [1, 1, 1, 1])]) (us := [(40, .bool true)]) (by kernel_rfl) ?_
                refine Runs.fill (m := [none, none, none, none, none, none, none, none, none, none, none, none, none, none, none, none, none, none, none, none, none, none, none, none, none, none, none, none, none, none, none, none, none, none, none, none, none, none, none, none, none, none, none, none, none, none, none, none, none, none, none, none, none, none, none, none, none, none, none, none, none, none, none, none, none, none, none]) (by kernel_rfl) ?_
                exact J17 ((hq46 _ (Option.some.inj hp79)).trans he27) _ _ hF24
              · skip
                have hp80 := ite_f hp76 h78
                refine sx_run 4 (todo' := [.code (c34 [1, 1, 1, 0, 1, 0, 0, 1, 0, 0, 1, 1]), .inBlock 1, .code (c34 [1, 1, 1, 0, 1, 0, 0, 1, 1]), .inLoop (c34 [1, 1, 1, 0, 1, 0, 0]), .inBlock 0, .code (c34 [1, 1, 1, 1])]) (us := [(40, .bool false)]) (by kernel_rfl) ?_
                refine Runs.fill (m := [some (.string a0), some (.int .i64 a1), none, none, none, none, none, some (.int .u64 t21), some (.int .i64 t22), some (.int .u8 (byt a0 (IntKind.i64.wrap (a1 + t22)))), none, none, none, none, none, none, none, none, none, none, none, none, none, none, none, none, none, none, none, none, none, none, none, none, none, none, none, none, none, none, none, none, none, none, none, none, none, none, none, none, none, none, none, none, none, none, none, none, none, none, none, none, none, none, none, none, none]) (by kernel_rfl) ?_
                exact J47 (Option.some.inj hp80) _ _ hF24
            · skip
              have hp81 := ite_f hv42 h75
              refine sx_run 7 (todo' := [.code (c34 [1, 1, 1, 0, 1, 0, 0, 1, 0, 0, 1, 1]), .inBlock 1, .code (c34 [1, 1, 1, 0, 1, 0, 0, 1, 1]), .inLoop (c34 [1, 1, 1, 0, 1, 0, 0]), .inBlock 0, .code (c34 [1, 1, 1, 1])]) (us := [(37, .bool false), (38, undef), (39, undef), (40, .bool false)]) (by kernel_rfl) ?_
              refine Runs.fill (m := [some (.string a0), some (.int .i64 a1), none, none, none, none, none, some (.int .u64 t21), some (.int .i64 t22), some (.int .u8 (byt a0 (IntKind.i64.wrap (a1 + t22)))), none, none, none, none, none, none, none, none, none, none, none, none, none, none, none, none, none, none, none, none, none, none, none, none, none, none, none, none, none, none, none, none, none, none, none, none, none, none, none, none, none, none, none, none, none, none, none, none, none, none, none, none, none, none, none, none, none]) (by kernel_rfl) ?_
              exact J47 (Option.some.inj hp81) _ _ hF24
          · skip
            have hp82 := ite_f hp35 h37
            refine sx_run 4 (todo' := [.code (c34 [1, 1, 1, 1])]) (us := [(27, .bool false)]) (by kernel_rfl) ?_
            refine Runs.fill (m := [none, none, none, none, none, none, none, none, none, none, none, none, none, none, none, none, none, none, none, none, none, none, none, none, none, none, none, none, none, none, none, none, none, none, none, none, none, none, none, none, none, none, none, none, none, none, none, none, none, none, none, none, none, none, none, none, none, none, none, none, none, none, none, none, none, none, none]) (by kernel_rfl) ?_
            exact J17 ((Option.some.inj hp82).trans he27) _ _ hF24
        · skip
          have hp83 := ite_f hb28 h34
          refine sx_run 11 (todo' := [.code (c34 [1, 1, 1, 1])]) (us := [(20, .bool false), (21, undef), (22, undef), (23, undef), (24, undef), (25, undef), (26, undef), (27, .bool false)]) (by kernel_rfl) ?_
          refine Runs.fill (m := [none, none, none, none, none, none, none, none, none, none, none, none, none, none, none, none, none, none, none, none, none, none, none, none, none, none, none, none, none, none, none, none, none, none, none, none, none, none, none, none, none, none, none, none, none, none, none, none, none, none, none, none, none, none, none, none, none, none, none, none, none, none, none, none, none, none, none]) (by kernel_rfl) ?_
          exact J17 ((Option.some.inj hp83).trans he27) _ _ hF24
      refine Runs.fill (m := [some (.string a0), some (.int .i64 a1), none, none, none, none, none, some (.int .u64 0), some (.int .i64 0), none, none, none, none, none, none, none, none, none, none, none, none, none, none, none, none, none, none, none, none, none, none, none, none, none, none, none, none, none, none, none, none, none, none, none, none, none, none, none, none, none, none, none, none, none, none, none, none, none, none, none, none, none, none, none, none, none, none]) (by kernel_rfl) ?_
      exact L31 0 0 _ hv12 rfl _ _ hF0

noncomputable def c35 (p : List Nat) : Code := sub (bodyOf Try.f35) p
def weirref04_Take.l0 (a0 : ByteArray) (a1 : Int) (t21 : Int) (t22 : Int) : Option (Sum Unit (Int × Int × Int)) :=
  (if (decide ((IntKind.i64.wrap (a1 + t22)) < (a0.size : Int))) = true then (if (decide (t22 < 10)) = true then (if 0 ≤ (IntKind.i64.wrap (a1 + t22)) ∧ (IntKind.i64.wrap (a1 + t22)) < (a0.size : Int) then (((if (t22 == 9) = true then (if (decide ((IntKind.u64.wrap ((byt a0 (IntKind.i64.wrap (a1 + t22))).tmod 128)) > 1)) = true then some (.inr (.inr ((0, 0, 40)))) else some (.inl ())) else some (.inl ())) : Option (Sum Unit (Sum Unit (Int × Int × Int)))) >>= (fun | .inl () => (if 0 ≤ (IntKind.i64.wrap (7 * t22)) then (if (decide ((byt a0 (IntKind.i64.wrap (a1 + t22))) ≥ 128)) = true then (weirref04_Take.l0 a0 a1 (bor .u64 t21 (shlI .u64 (IntKind.u64.wrap ((byt a0 (IntKind.i64.wrap (a1 + t22))).tmod 128)) (IntKind.i64.wrap (7 * t22)))) (IntKind.i64.wrap (t22 + 1))) else (((if ((byt a0 (IntKind.i64.wrap (a1 + t22))) == 0) = true then (if (decide (t22 > 0)) = true then some (.inr (.inr ((0, 0, 40)))) else some (.inl ())) else some (.inl ())) : Option (Sum Unit (Sum Unit (Int × Int × Int)))) >>= (fun | .inl () => (if (((bor .u64 t21 (shlI .u64 (IntKind.u64.wrap ((byt a0 (IntKind.i64.wrap (a1 + t22))).tmod 128)) (IntKind.i64.wrap (7 * t22)))).tmod 2) == 1) = true then some (.inr (((IntKind.i64.wrap ((IntKind.i64.wrap (0 - (IntKind.i64.wrap (shrI .u64 (bor .u64 t21 (shlI .u64 (IntKind.u64.wrap ((byt a0 (IntKind.i64.wrap (a1 + t22))).tmod 128)) (IntKind.i64.wrap (7 * t22)))) 1)))) - 1)), (IntKind.i64.wrap (t22 + 1)), 0))) else some (.inr (((IntKind.i64.wrap (shrI .u64 (bor .u64 t21 (shlI .u64 (IntKind.u64.wrap ((byt a0 (IntKind.i64.wrap (a1 + t22))).tmod 128)) (IntKind.i64.wrap (7 * t22)))) 1)), (IntKind.i64.wrap (t22 + 1)), 0)))) | .inr e => some e))) else none) | .inr e => some e)) else none) else some (.inl ())) else some (.inl ()))
 partial_fixpoint
def weirref04_Take.f (a0 : ByteArray) (a1 : Int) : Option (Int × Int × Int) :=
  (if (decide (a1 < 0)) = true then some ((0, 0, 40)) else (if (decide (a1 ≥ (a0.size : Int))) = true then some ((0, 0, 40)) else (weirref04_Take.l0 a0 a1 0 0 >>= (fun | .inl () => some ((0, 0, 40)) | .inr e => some e))))
theorem weirref04_Take.ok (a0 : ByteArray) (a1 : Int) (w0 : World) (r : Int × Int × Int) (hp0 : weirref04_Take.f a0 a1 = some r) :
    Calls Try.prog 35 #[.string a0, .int .i64 a1] w0 (fun e w' => e = .returned (.tuple #[.int .i64 r.1, .int .i64 r.2.1, .int .i64 r.2.2]) ∧ Fr [] w0 w') := by
  refine calls_abs ?_; intro R hR
  unfold weirref04_Take.f at hp0
  have hF0 : Fr [] w0 w0 := Fr.refl _ _
  refine calls_of_runs (fn := Try.f35) (c := c35 []) Try.func35 (by kernel_rfl) (al := [.string a0, .int .i64 a1]) rfl (n := 70) rfl ?_
  refine sx_split 11 (todo' := [.inRegion (opsOf (c35 [1, 0, 0])) [2, 3, 4, 5, 6, 7], .code (c35 [1, 0, 1]), .code (c35 [1, 1])]) (us := [(4, .int .i64 0), (5, .int .i64 0), (6, .int .i64 0), (12, .int .i64 a1)]) (d := 13) (t := (decide (a1 < 0))) (by kernel_rfl) (fun h1 => ?_) (fun h2 => ?_)
  · skip
    have hp3 := ite_t hp0 h1
    refine sx_run 14 (todo' := [.code (c35 [1, 0, 1, 0, 1]), .code (c35 [1, 1])]) (us := [(14, .bool true), (15, undef), (16, undef), (17, undef), (18, undef), (19, .bool true), (4, .int .i64 0), (5, .int .i64 0), (6, .int .i64 40)]) (by kernel_rfl) ?_
    refine runs_ret (fn := Try.f35) (v := .tuple #[.int .i64 0, .int .i64 0, .int .i64 40]) Try.func35 (by kernel_rfl) ?_
    have hr4 := (Option.some.inj hp3)
    subst hr4
    exact hR _ _ ⟨rfl, hF0⟩
  · skip
    have hp5 := ite_f hp0 h2
    refine sx_split 5 (todo' := [.inRegion (opsOf (c35 [1, 0, 0])) [7], .code (c35 [1, 0, 1]), .code (c35 [1, 1])]) (us := [(14, .bool false), (15, .int .i64 a1), (16, .string a0), (17, .int .i64 (a0.size : Int))]) (d := 18) (t := (decide (a1 ≥ (a0.size : Int)))) (by kernel_rfl) (fun h6 => ?_) (fun h7 => ?_)
    · skip
      have hp8 := ite_t hp5 h6
      refine sx_run 9 (todo' := [.code (c35 [1, 0, 1, 0, 1]), .code (c35 [1, 1])]) (us := [(19, .bool true), (4, .int .i64 0), (5, .int .i64 0), (6, .int .i64 40)]) (by kernel_rfl) ?_
      refine runs_ret (fn := Try.f35) (v := .tuple #[.int .i64 0, .int .i64 0, .int .i64 40]) Try.func35 (by kernel_rfl) ?_
      have hr9 := (Option.some.inj hp8)
      subst hr9
      exact hR _ _ ⟨rfl, hF0⟩
    · skip
      have hp10 := ite_f hp5 h7
      refine sx_run 15 (todo' := [.code (c35 [1, 1, 1, 0, 1, 0, 0]), .inLoop (c35 [1, 1, 1, 0, 1, 0, 0]), .inBlock 0, .code (c35 [1, 1, 1, 1])]) (us := [(19, .bool false), (7, .int .u64 0), (8, .int .i64 0)]) (by kernel_rfl) ?_
      obtain ⟨v11, hv12, hp13⟩ := bind_some' hp10
      have hq16 : ∀ x, Sum.inr x = v11 → x = r := by intro x hx; subst hx; simpa using hp13
      have J17 : ∀ (he19 : Sum.inl () = v11) (l18 : List Value) (w14 : World) (hF15 : Fr [] w0 w14), Runs Try.prog 35 [.code (c35 [1, 1, 1, 1])] (fill [none, none, none, none, none, none, none, none, none, none, none, none, none, none, none, none, none, none, none, none, none, none, none, none, none, none, none, none, none, none, none, none, none, none, none, none, none, none, none, none, none, none, none, none, none, none, none, none, none, none, none, none, none, none, none, none, none, none, none, none, none, none, none, none, none, none, none, none, none, none, none, none] l18) w14 R := by
        intro he19 l18 w14 hF15
        subst he19
        try dsimp only at hp13
        refine sx_run 6 (todo' := [.code (c35 [1, 1, 1, 1, 1])]) (us := [(4, .int .i64 0), (5, .int .i64 0), (6, .int .i64 40)]) (by kernel_rfl) ?_
        refine runs_ret (fn := Try.f35) (v := .tuple #[.int .i64 0, .int .i64 0, .int .i64 40]) Try.func35 (by kernel_rfl) ?_
        have hr20 := (Option.some.inj hp13)
        subst hr20
        exact hR _ _ ⟨rfl, hF15⟩
      have L31 : ∀ (t21 : Int) (t22 : Int) (e26 : Sum Unit (Int × Int × Int)), weirref04_Take.l0 a0 a1 t21 t22 = some e26 → e26 = v11 → ∀ (l25 : List Value) (w23 : World) (hF24 : Fr [] w0 w23), Runs Try.prog 35 [.code (c35 [1, 1, 1, 0, 1, 0, 0]), .inLoop (c35 [1, 1, 1, 0, 1, 0, 0]), .inBlock 0, .code (c35 [1, 1, 1, 1])] (fill [some (.string a0), some (.int .i64 a1), none, none, none, none, none, some (.int .u64 t21), some (.int .i64 t22), none, none, none, none, none, none, none, none, none, none, none, none, none, none, none, none, none, none, none, none, none, none, none, none, none, none, none, none, none, none, none, none, none, none, none, none, none, none, none, none, none, none, none, none, none, none, none, none, none, none, none, none, none, none, none, none, none, none, none, none, none, none, none] l25) w23 R := by
        refine weirref04_Take.l0.partial_correctness a0 a1 (fun t21 t22 e26 => e26 = v11 → ∀ (l25 : List Value) (w23 : World) (hF24 : Fr [] w0 w23), Runs Try.prog 35 [.code (c35 [1, 1, 1, 0, 1, 0, 0]), .inLoop (c35 [1, 1, 1, 0, 1, 0, 0]), .inBlock 0, .code (c35 [1, 1, 1, 1])] (fill [some (.string a0), some (.int .i64 a1), none, none, none, none, none, some (.int .u64 t21), some (.int .i64 t22), none, none, none, none, none, none, none, none, none, none, none, none, none, none, none, none, none, none, none, none, none, none, none, none, none, none, none, none, none, none, none, none, none, none, none, none, none, none, none, none, none, none, none, none, none, none, none, none, none, none, none, none, none, none, none, none, none, none, none, none, none, none, none] l25) w23 R) ?_
        intro rec30 ih29 t21 t22 e26 hb28 he27 l25 w23 hF24
        have hq32 : ∀ x, Sum.inr x = e26 → x = r := fun x hx => hq16 x (hx.trans he27)
        refine sx_split 9 (todo' := [.inRegion (opsOf (c35 [1, 1, 1, 0, 1, 0, 0, 0, 0])) [6, 7, 8, 9], .code (c35 [1, 1, 1, 0, 1, 0, 0, 0, 1]), .code (c35 [1, 1, 1, 0, 1, 0, 0, 1]), .inLoop (c35 [1, 1, 1, 0, 1, 0, 0]), .inBlock 0, .code (c35 [1, 1, 1, 1])]) (us := [(20, .int .i64 a1), (21, .int .i64 t22), (22, .int .i64 (IntKind.i64.wrap (a1 + t22))), (23, .string a0), (24, .int .i64 (a0.size : Int))]) (d := 25) (t := (decide ((IntKind.i64.wrap (a1 + t22)) < (a0.size : Int)))) (by kernel_rfl) (fun h33 => ?_) (fun h34 => ?_)
        · skip
          have hp35 := ite_t hb28 h33
          refine sx_split 3 (todo' := [.inRegion (opsOf (c35 [1, 1, 1, 0, 1, 0, 0, 0, 0])) [9], .code (c35 [1, 1, 1, 0, 1, 0, 0, 0, 1]), .code (c35 [1, 1, 1, 0, 1, 0, 0, 1]), .inLoop (c35 [1, 1, 1, 0, 1, 0, 0]), .inBlock 0, .code (c35 [1, 1, 1, 1])]) (us := [(26, .bool true), (27, .int .i64 t22)]) (d := 28) (t := (decide (t22 < 10))) (by kernel_rfl) (fun h36 => ?_) (fun h37 => ?_)
          · skip
            have hp38 := ite_t hp35 h36
            refine sx_run 12 (todo' := [.inRegion (opsOf (c35 [1, 1, 1, 0, 1, 0, 0, 1, 0, 0, 0])) [4, 5], .code (c35 [1, 1, 1, 0, 1, 0, 0, 1, 0, 0, 1]), .inBlock 1, .code (c35 [1, 1, 1, 0, 1, 0, 0, 1, 1]), .inLoop (c35 [1, 1, 1, 0, 1, 0, 0]), .inBlock 0, .code (c35 [1, 1, 1, 1])]) (us := [(29, .bool true), (32, .string a0), (33, .int .i64 a1), (34, .int .i64 t22), (35, .int .i64 (IntKind.i64.wrap (a1 + t22)))]) (by kernel_rfl) ?_
            obtain ⟨g39, hp40⟩ := ite_some hp38
            refine r_val (c := (c35 [1, 1, 1, 0, 1, 0, 0, 1, 0, 0, 0])) (i := 4) (ty := 5) (d := (some 36)) (op := .index 9 (.tmp 32) (.tmp 35)) (v := .int .u8 (byt a0 (IntKind.i64.wrap (a1 + t22)))) (by kernel_rfl) (by kernel_rfl) (fun o ho _ => x_indexStr (kk := .i64) (by kernel_rfl) (by kernel_rfl) (by kernel_rfl) g39.1 g39.2 ho) ?_
            obtain ⟨v41, hv42, hp43⟩ := bind_some' hp40
            have hq46 : ∀ x, Sum.inr x = v41 → x = e26 := by intro x hx; subst hx; simpa using hp43
            have J47 : ∀ (he49 : Sum.inl () = v41) (l48 : List Value) (w44 : World) (hF45 : Fr [] w0 w44), Runs Try.prog 35 [.code (c35 [1, 1, 1, 0, 1, 0, 0, 1, 0, 0, 1, 1, 1]), .inBlock 1, .code (c35 [1, 1, 1, 0, 1, 0, 0, 1, 1]), .inLoop (c35 [1, 1, 1, 0, 1, 0, 0]), .inBlock 0, .code (c35 [1, 1, 1, 1])] (fill [some (.string a0), some (.int .i64 a1), none, none, none, none, none, some (.int .u64 t21), some (.int .i64 t22), some (.int .u8 (byt a0 (IntKind.i64.wrap (a1 + t22)))), some (.int .u64 (IntKind.u64.wrap ((byt a0 (IntKind.i64.wrap (a1 + t22))).tmod 128))), none, none, none, none, none, none, none, none, none, none, none, none, none, none, none, none, none, none, none, none, none, none, none, none, none, none, none, none, none, none, none, none, none, none, none, none, none, none, none, none, none, none, none, none, none, none, none, none, none, none, none, none, none, none, none, none, none, none, none, none, none] l48) w44 R := by
              intro he49 l48 w44 hF45
              subst he49
              try dsimp only at hp43
              refine sx_run 6 (todo' := [.inRegion (opsOf (c35 [1, 1, 1, 0, 1, 0, 0, 1, 0, 0, 1, 1, 1, 0])) [4, 5, 6], .code (c35 [1, 1, 1, 0, 1, 0, 0, 1, 0, 0, 1, 1, 1, 1]), .inBlock 1, .code (c35 [1, 1, 1, 0, 1, 0, 0, 1, 1]), .inLoop (c35 [1, 1, 1, 0, 1, 0, 0]), .inBlock 0, .code (c35 [1, 1, 1, 1])]) (us := [(46, .int .u64 t21), (47, .int .u64 (IntKind.u64.wrap ((byt a0 (IntKind.i64.wrap (a1 + t22))).tmod 128))), (48, .int .i64 t22), (49, .int .i64 (IntKind.i64.wrap (7 * t22)))]) (by kernel_rfl) ?_
              obtain ⟨g50, hp51⟩ := ite_some hp43
              refine r_val (c := (c35 [1, 1, 1, 0, 1, 0, 0, 1, 0, 0, 1, 1, 1, 0])) (i := 4) (ty := 76) (d := (some 50)) (op := .binOp .shl 76 (.tmp 47) (.tmp 49) 3) (v := .int .u64 (shlI .u64 (IntKind.u64.wrap ((byt a0 (IntKind.i64.wrap (a1 + t22))).tmod 128)) (IntKind.i64.wrap (7 * t22)))) (by kernel_rfl) (by kernel_rfl) (fun o ho _ => (x_shift (kk := .i64) (by kernel_rfl) (by kernel_rfl) g50).1 ho) ?_
              refine sx_split 8 (todo' := [.inRegion (opsOf (c35 [1, 1, 1, 0, 1, 0, 0, 1, 0, 0, 1, 1, 1, 1, 0, 0])) [], .code (c35 [1, 1, 1, 0, 1, 0, 0, 1, 0, 0, 1, 1, 1, 1, 0, 1]), .code (c35 [1, 1, 1, 0, 1, 0, 0, 1, 0, 0, 1, 1, 1, 1, 1]), .inBlock 1, .code (c35 [1, 1, 1, 0, 1, 0, 0, 1, 1]), .inLoop (c35 [1, 1, 1, 0, 1, 0, 0]), .inBlock 0, .code (c35 [1, 1, 1, 1])]) (us := [(51, .int .u64 (bor .u64 t21 (shlI .u64 (IntKind.u64.wrap ((byt a0 (IntKind.i64.wrap (a1 + t22))).tmod 128)) (IntKind.i64.wrap (7 * t22))))), (7, .int .u64 (bor .u64 t21 (shlI .u64 (IntKind.u64.wrap ((byt a0 (IntKind.i64.wrap (a1 + t22))).tmod 128)) (IntKind.i64.wrap (7 * t22))))), (52, .int .u8 (byt a0 (IntKind.i64.wrap (a1 + t22))))]) (d := 53) (t := (decide ((byt a0 (IntKind.i64.wrap (a1 + t22))) ≥ 128))) (by kernel_rfl) (fun h52 => ?_) (fun h53 => ?_)
              · skip
                have hp54 := ite_t hp51 h52
                refine sx_run 8 (todo' := [.inLoop (c35 [1, 1, 1, 0, 1, 0, 0]), .inBlock 0, .code (c35 [1, 1, 1, 1])]) (us := [(30, .int .i64 t22), (31, .int .i64 (IntKind.i64.wrap (t22 + 1))), (8, .int .i64 (IntKind.i64.wrap (t22 + 1)))]) (by kernel_rfl) ?_
                refine sx_run 1 (todo' := [.code (c35 [1, 1, 1, 0, 1, 0, 0]), .inLoop (c35 [1, 1, 1, 0, 1, 0, 0]), .inBlock 0, .code (c35 [1, 1, 1, 1])]) (us := []) (by kernel_rfl) ?_
                refine Runs.fill (m := [some (.string a0), some (.int .i64 a1), none, none, none, none, none, some (.int .u64 (bor .u64 t21 (shlI .u64 (IntKind.u64.wrap ((byt a0 (IntKind.i64.wrap (a1 + t22))).tmod 128)) (IntKind.i64.wrap (7 * t22))))), some (.int .i64 (IntKind.i64.wrap (t22 + 1))), none, none, none, none, none, none, none, none, none, none, none, none, none, none, none, none, none, none, none, none, none, none, none, none, none, none, none, none, none, none, none, none, none, none, none, none, none, none, none, none, none, none, none, none, none, none, none, none, none, none, none, none, none, none, none, none, none, none, none, none, none, none, none]) (by kernel_rfl) ?_
                exact ih29 (bor .u64 t21 (shlI .u64 (IntKind.u64.wrap ((byt a0 (IntKind.i64.wrap (a1 + t22))).tmod 128)) (IntKind.i64.wrap (7 * t22)))) (IntKind.i64.wrap (t22 + 1)) _ hp54 he27 _ _ hF45
              · skip
                have hp55 := ite_f hp51 h53
                obtain ⟨v56, hv57, hp58⟩ := bind_some' hp55
                have hq61 : ∀ x, Sum.inr x = v56 → x = e26 := by intro x hx; subst hx; simpa using hp58
                have J62 : ∀ (he64 : Sum.inl () = v56) (l63 : List Value) (w59 : World) (hF60 : Fr [] w0 w59), Runs Try.prog 35 [.code (c35 [1, 1, 1, 0, 1, 0, 0, 1, 0, 0, 1, 1, 1, 1, 1, 1]), .inBlock 1, .code (c35 [1, 1, 1, 0, 1, 0, 0, 1, 1]), .inLoop (c35 [1, 1, 1, 0, 1, 0, 0]), .inBlock 0, .code (c35 [1, 1, 1, 1])] (fill [none, none, none, none, none, none, none, some (.int .u64 (bor .u64 t21 (shlI .u64 (IntKind.u64.wrap ((byt a0 (IntKind.i64.wrap (a1 + t22))).tmod 128)) (IntKind.i64.wrap (7 * t22))))), some (.int .i64 t22), none, none, none, none, none, none, none, none, none, none, none, none, none, none, none, none, none, none, none, none, none, none, none, none, none, none, none, none, none, none, none, none, none, none, none, none, none, none, none, none, none, none, none, none, none, none, none, none, none, none, none, none, none, none, none, none, none, none, none, none, none, none, none] l63) w59 R := by
                  intro he64 l63 w59 hF60
                  subst he64
                  try dsimp only at hp58
                  refine sx_split 13 (todo' := [.inRegion (opsOf (c35 [1, 1, 1, 0, 1, 0, 0, 1, 0, 0, 1, 1, 1, 1, 1, 1, 1, 0, 0])) [], .code (c35 [1, 1, 1, 0, 1, 0, 0, 1, 0, 0, 1, 1, 1, 1, 1, 1, 1, 0, 1]), .code (c35 [1, 1, 1, 0, 1, 0, 0, 1, 0, 0, 1, 1, 1, 1, 1, 1, 1, 1]), .inBlock 1, .code (c35 [1, 1, 1, 0, 1, 0, 0, 1, 1]), .inLoop (c35 [1, 1, 1, 0, 1, 0, 0]), .inBlock 0, .code (c35 [1, 1, 1, 1])]) (us := [(60, .int .u64 (bor .u64 t21 (shlI .u64 (IntKind.u64.wrap ((byt a0 (IntKind.i64.wrap (a1 + t22))).tmod 128)) (IntKind.i64.wrap (7 * t22))))), (61, .int .u64 (shrI .u64 (bor .u64 t21 (shlI .u64 (IntKind.u64.wrap ((byt a0 (IntKind.i64.wrap (a1 + t22))).tmod 128)) (IntKind.i64.wrap (7 * t22)))) 1)), (62, .int .i64 (IntKind.i64.wrap (shrI .u64 (bor .u64 t21 (shlI .u64 (IntKind.u64.wrap ((byt a0 (IntKind.i64.wrap (a1 + t22))).tmod 128)) (IntKind.i64.wrap (7 * t22)))) 1))), (11, .int .i64 (IntKind.i64.wrap (shrI .u64 (bor .u64 t21 (shlI .u64 (IntKind.u64.wrap ((byt a0 (IntKind.i64.wrap (a1 + t22))).tmod 128)) (IntKind.i64.wrap (7 * t22)))) 1))), (63, .int .u64 (bor .u64 t21 (shlI .u64 (IntKind.u64.wrap ((byt a0 (IntKind.i64.wrap (a1 + t22))).tmod 128)) (IntKind.i64.wrap (7 * t22))))), (64, .int .u64 ((bor .u64 t21 (shlI .u64 (IntKind.u64.wrap ((byt a0 (IntKind.i64.wrap (a1 + t22))).tmod 128)) (IntKind.i64.wrap (7 * t22)))).tmod 2))]) (d := 65) (t := (((bor .u64 t21 (shlI .u64 (IntKind.u64.wrap ((byt a0 (IntKind.i64.wrap (a1 + t22))).tmod 128)) (IntKind.i64.wrap (7 * t22)))).tmod 2) == 1)) (by kernel_rfl) (fun h65 => ?_) (fun h66 => ?_)
                  · skip
                    have hp67 := ite_t hp58 h65
                    refine sx_run 17 (todo' := [.code (c35 [1, 1, 1, 0, 1, 0, 0, 1, 0, 0, 1, 1, 1, 1, 1, 1, 1, 1, 1]), .inBlock 1, .code (c35 [1, 1, 1, 0, 1, 0, 0, 1, 1]), .inLoop (c35 [1, 1, 1, 0, 1, 0, 0]), .inBlock 0, .code (c35 [1, 1, 1, 1])]) (us := [(66, .int .i64 (IntKind.i64.wrap (shrI .u64 (bor .u64 t21 (shlI .u64 (IntKind.u64.wrap ((byt a0 (IntKind.i64.wrap (a1 + t22))).tmod 128)) (IntKind.i64.wrap (7 * t22)))) 1))), (67, .int .i64 (IntKind.i64.wrap (0 - (IntKind.i64.wrap (shrI .u64 (bor .u64 t21 (shlI .u64 (IntKind.u64.wrap ((byt a0 (IntKind.i64.wrap (a1 + t22))).tmod 128)) (IntKind.i64.wrap (7 * t22)))) 1))))), (68, .int .i64 (IntKind.i64.wrap ((IntKind.i64.wrap (0 - (IntKind.i64.wrap (shrI .u64 (bor .u64 t21 (shlI .u64 (IntKind.u64.wrap ((byt a0 (IntKind.i64.wrap (a1 + t22))).tmod 128)) (IntKind.i64.wrap (7 * t22)))) 1)))) - 1))), (11, .int .i64 (IntKind.i64.wrap ((IntKind.i64.wrap (0 - (IntKind.i64.wrap (shrI .u64 (bor .u64 t21 (shlI .u64 (IntKind.u64.wrap ((byt a0 (IntKind.i64.wrap (a1 + t22))).tmod 128)) (IntKind.i64.wrap (7 * t22)))) 1)))) - 1))), (69, .int .i64 (IntKind.i64.wrap ((IntKind.i64.wrap (0 - (IntKind.i64.wrap (shrI .u64 (bor .u64 t21 (shlI .u64 (IntKind.u64.wrap ((byt a0 (IntKind.i64.wrap (a1 + t22))).tmod 128)) (IntKind.i64.wrap (7 * t22)))) 1)))) - 1))), (70, .int .i64 t22), (71, .int .i64 (IntKind.i64.wrap (t22 + 1))), (4, .int .i64 (IntKind.i64.wrap ((IntKind.i64.wrap (0 - (IntKind.i64.wrap (shrI .u64 (bor .u64 t21 (shlI .u64 (IntKind.u64.wrap ((byt a0 (IntKind.i64.wrap (a1 + t22))).tmod 128)) (IntKind.i64.wrap (7 * t22)))) 1)))) - 1))), (5, .int .i64 (IntKind.i64.wrap (t22 + 1))), (6, .int .i64 0)]) (by kernel_rfl) ?_
                    refine runs_ret (fn := Try.f35) (v := .tuple #[.int .i64 (IntKind.i64.wrap ((IntKind.i64.wrap (0 - (IntKind.i64.wrap (shrI .u64 (bor .u64 t21 (shlI .u64 (IntKind.u64.wrap ((byt a0 (IntKind.i64.wrap (a1 + t22))).tmod 128)) (IntKind.i64.wrap (7 * t22)))) 1)))) - 1)), .int .i64 (IntKind.i64.wrap (t22 + 1)), .int .i64 0]) Try.func35 (by kernel_rfl) ?_
                    have hr68 := (hq32 _ (Option.some.inj hp67))
                    subst hr68
                    exact hR _ _ ⟨rfl, hF60⟩
                  · skip
                    have hp69 := ite_f hp58 h66
                    refine sx_run 12 (todo' := [.code (c35 [1, 1, 1, 0, 1, 0, 0, 1, 0, 0, 1, 1, 1, 1, 1, 1, 1, 1, 1]), .inBlock 1, .code (c35 [1, 1, 1, 0, 1, 0, 0, 1, 1]), .inLoop (c35 [1, 1, 1, 0, 1, 0, 0]), .inBlock 0, .code (c35 [1, 1, 1, 1])]) (us := [(69, .int .i64 (IntKind.i64.wrap (shrI .u64 (bor .u64 t21 (shlI .u64 (IntKind.u64.wrap ((byt a0 (IntKind.i64.wrap (a1 + t22))).tmod 128)) (IntKind.i64.wrap (7 * t22)))) 1))), (70, .int .i64 t22), (71, .int .i64 (IntKind.i64.wrap (t22 + 1))), (4, .int .i64 (IntKind.i64.wrap (shrI .u64 (bor .u64 t21 (shlI .u64 (IntKind.u64.wrap ((byt a0 (IntKind.i64.wrap (a1 + t22))).tmod 128)) (IntKind.i64.wrap (7 * t22)))) 1))), (5, .int .i64 (IntKind.i64.wrap (t22 + 1))), (6, .int .i64 0)]) (by kernel_rfl) ?_
                    refine runs_ret (fn := Try.f35) (v := .tuple #[.int .i64 (IntKind.i64.wrap (shrI .u64 (bor .u64 t21 (shlI .u64 (IntKind.u64.wrap ((byt a0 (IntKind.i64.wrap (a1 + t22))).tmod 128)) (IntKind.i64.wrap (7 * t22)))) 1)), .int .i64 (IntKind.i64.wrap (t22 + 1)), .int .i64 0]) Try.func35 (by kernel_rfl) ?_
                    have hr70 := (hq32 _ (Option.some.inj hp69))
                    subst hr70
                    exact hR _ _ ⟨rfl, hF60⟩
                refine sx_split 8 (todo' := [.inRegion (opsOf (c35 [1, 1, 1, 0, 1, 0, 0, 1, 0, 0, 1, 1, 1, 1, 1, 0, 0])) [2, 3, 4, 5], .code (c35 [1, 1, 1, 0, 1, 0, 0, 1, 0, 0, 1, 1, 1, 1, 1, 0, 1]), .code (c35 [1, 1, 1, 0, 1, 0, 0, 1, 0, 0, 1, 1, 1, 1, 1, 1]), .inBlock 1, .code (c35 [1, 1, 1, 0, 1, 0, 0, 1, 1]), .inLoop (c35 [1, 1, 1, 0, 1, 0, 0]), .inBlock 0, .code (c35 [1, 1, 1, 1])]) (us := [(54, .int .u8 (byt a0 (IntKind.i64.wrap (a1 + t22))))]) (d := 55) (t := ((byt a0 (IntKind.i64.wrap (a1 + t22))) == 0)) (by kernel_rfl) (fun h71 => ?_) (fun h72 => ?_)
                · skip
                  have hp73 := ite_t hv57 h71
                  refine sx_split 3 (todo' := [.inRegion (opsOf (c35 [1, 1, 1, 0, 1, 0, 0, 1, 0, 0, 1, 1, 1, 1, 1, 0, 0])) [5], .code (c35 [1, 1, 1, 0, 1, 0, 0, 1, 0, 0, 1, 1, 1, 1, 1, 0, 1]), .code (c35 [1, 1, 1, 0, 1, 0, 0, 1, 0, 0, 1, 1, 1, 1, 1, 1]), .inBlock 1, .code (c35 [1, 1, 1, 0, 1, 0, 0, 1, 1]), .inLoop (c35 [1, 1, 1, 0, 1, 0, 0]), .inBlock 0, .code (c35 [1, 1, 1, 1])]) (us := [(56, .bool true), (57, .int .i64 t22)]) (d := 58) (t := (decide (t22 > 0))) (by kernel_rfl) (fun h74 => ?_) (fun h75 => ?_)
                  · skip
                    have hp76 := ite_t hp73 h74
                    refine sx_run 9 (todo' := [.code (c35 [1, 1, 1, 0, 1, 0, 0, 1, 0, 0, 1, 1, 1, 1, 1, 0, 1, 0, 1]), .code (c35 [1, 1, 1, 0, 1, 0, 0, 1, 0, 0, 1, 1, 1, 1, 1, 1]), .inBlock 1, .code (c35 [1, 1, 1, 0, 1, 0, 0, 1, 1]), .inLoop (c35 [1, 1, 1, 0, 1, 0, 0]), .inBlock 0, .code (c35 [1, 1, 1, 1])]) (us := [(59, .bool true), (4, .int .i64 0), (5, .int .i64 0), (6, .int .i64 40)]) (by kernel_rfl) ?_
                    refine runs_ret (fn := Try.f35) (v := .tuple #[.int .i64 0, .int .i64 0, .int .i64 40]) Try.func35 (by kernel_rfl) ?_
                    have hr77 := (hq32 _ (hq61 _ (Option.some.inj hp76)))
                    subst hr77
                    exact hR _ _ ⟨rfl, hF45⟩
                  · skip
                    have hp78 := ite_f hp73 h75
                    refine sx_run 4 (todo' := [.code (c35 [1, 1, 1, 0, 1, 0, 0, 1, 0, 0, 1, 1, 1, 1, 1, 1]), .inBlock 1, .code (c35 [1, 1, 1, 0, 1, 0, 0, 1, 1]), .inLoop (c35 [1, 1, 1, 0, 1, 0, 0]), .inBlock 0, .code (c35 [1, 1, 1, 1])]) (us := [(59, .bool false)]) (by kernel_rfl) ?_
                    refine Runs.fill (m := [none, none, none, none, none, none, none, some (.int .u64 (bor .u64 t21 (shlI .u64 (IntKind.u64.wrap ((byt a0 (IntKind.i64.wrap (a1 + t22))).tmod 128)) (IntKind.i64.wrap (7 * t22))))), some (.int .i64 t22), none, none, none, none, none, none, none, none, none, none, none, none, none, none, none, none, none, none, none, none, none, none, none, none, none, none, none, none, none, none, none, none, none, none, none, none, none, none, none, none, none, none, none, none, none, none, none, none, none, none, none, none, none, none, none, none, none, none, none, none, none, none, none]) (by kernel_rfl) ?_
                    exact J62 (Option.some.inj hp78) _ _ hF45
                · skip
                  have hp79 := ite_f hv57 h72
                  refine sx_run 7 (todo' := [.code (c35 [1, 1, 1, 0, 1, 0, 0, 1, 0, 0, 1, 1, 1, 1, 1, 1]), .inBlock 1, .code (c35 [1, 1, 1, 0, 1, 0, 0, 1, 1]), .inLoop (c35 [1, 1, 1, 0, 1, 0, 0]), .inBlock 0, .code (c35 [1, 1, 1, 1])]) (us := [(56, .bool false), (57, undef), (58, undef), (59, .bool false)]) (by kernel_rfl) ?_
                  refine Runs.fill (m := [none, none, none, none, none, none, none, some (.int .u64 (bor .u64 t21 (shlI .u64 (IntKind.u64.wrap ((byt a0 (IntKind.i64.wrap (a1 + t22))).tmod 128)) (IntKind.i64.wrap (7 * t22))))), some (.int .i64 t22), none, none, none, none, none, none, none, none, none, none, none, none, none, none, none, none, none, none, none, none, none, none, none, none, none, none, none, none, none, none, none, none, none, none, none, none, none, none, none, none, none, none, none, none, none, none, none, none, none, none, none, none, none, none, none, none, none, none, none, none, none, none, none]) (by kernel_rfl) ?_
                  exact J62 (Option.some.inj hp79) _ _ hF45
            refine sx_split 14 (todo' := [.inRegion (opsOf (c35 [1, 1, 1, 0, 1, 0, 0, 1, 0, 0, 1, 1, 0, 0])) [2, 3, 4, 5], .code (c35 [1, 1, 1, 0, 1, 0, 0, 1, 0, 0, 1, 1, 0, 1]), .code (c35 [1, 1, 1, 0, 1, 0, 0, 1, 0, 0, 1, 1, 1]), .inBlock 1, .code (c35 [1, 1, 1, 0, 1, 0, 0, 1, 1]), .inLoop (c35 [1, 1, 1, 0, 1, 0, 0]), .inBlock 0, .code (c35 [1, 1, 1, 1])]) (us := [(9, .int .u8 (byt a0 (IntKind.i64.wrap (a1 + t22)))), (37, .int .u8 (byt a0 (IntKind.i64.wrap (a1 + t22)))), (38, .int .u8 ((byt a0 (IntKind.i64.wrap (a1 + t22))).tmod 128)), (39, .int .u64 (IntKind.u64.wrap ((byt a0 (IntKind.i64.wrap (a1 + t22))).tmod 128))), (10, .int .u64 (IntKind.u64.wrap ((byt a0 (IntKind.i64.wrap (a1 + t22))).tmod 128))), (40, .int .i64 t22)]) (d := 41) (t := (t22 == 9)) (by kernel_rfl) (fun h80 => ?_) (fun h81 => ?_)
            · skip
              have hp82 := ite_t hv42 h80
              refine sx_split 3 (todo' := [.inRegion (opsOf (c35 [1, 1, 1, 0, 1, 0, 0, 1, 0, 0, 1, 1, 0, 0])) [5], .code (c35 [1, 1, 1, 0, 1, 0, 0, 1, 0, 0, 1, 1, 0, 1]), .code (c35 [1, 1, 1, 0, 1, 0, 0, 1, 0, 0, 1, 1, 1]), .inBlock 1, .code (c35 [1, 1, 1, 0, 1, 0, 0, 1, 1]), .inLoop (c35 [1, 1, 1, 0, 1, 0, 0]), .inBlock 0, .code (c35 [1, 1, 1, 1])]) (us := [(42, .bool true), (43, .int .u64 (IntKind.u64.wrap ((byt a0 (IntKind.i64.wrap (a1 + t22))).tmod 128)))]) (d := 44) (t := (decide ((IntKind.u64.wrap ((byt a0 (IntKind.i64.wrap (a1 + t22))).tmod 128)) > 1))) (by kernel_rfl) (fun h83 => ?_) (fun h84 => ?_)
              · skip
                have hp85 := ite_t hp82 h83
                refine sx_run 9 (todo' := [.code (c35 [1, 1, 1, 0, 1, 0, 0, 1, 0, 0, 1, 1, 0, 1, 0, 1]), .code (c35 [1, 1, 1, 0, 1, 0, 0, 1, 0, 0, 1, 1, 1]), .inBlock 1, .code (c35 [1, 1, 1, 0, 1, 0, 0, 1, 1]), .inLoop (c35 [1, 1, 1, 0, 1, 0, 0]), .inBlock 0, .code (c35 [1, 1, 1, 1])]) (us := [(45, .bool true), (4, .int .i64 0), (5, .int .i64 0), (6, .int .i64 40)]) (by kernel_rfl) ?_
                refine runs_ret (fn := Try.f35) (v := .tuple #[.int .i64 0, .int .i64 0, .int .i64 40]) Try.func35 (by kernel_rfl) ?_
                have hr86 := (hq32 _ (hq46 _ (Option.some.inj hp85)))
                subst hr86
                exact hR _ _ ⟨rfl, hF24⟩
              · skip
                have hp87 := ite_f hp82 h84
                refine sx_run 4 (todo' := [.code (c35 [1, 1, 1, 0, 1, 0, 0, 1, 0, 0, 1, 1, 1]), .inBlock 1, .code (c35 [1, 1, 1, 0, 1, 0, 0, 1, 1]), .inLoop (c35 [1, 1, 1, 0, 1, 0, 0]), .inBlock 0, .code (c35 [1, 1, 1, 1])]) (us := [(45, .bool false)]) (by kernel_rfl) ?_
                refine Runs.fill (m := [some (.string a0), some (.int .i64 a1), none, none, none, none, none, some (.int .u64 t21), some (.int .i64 t22), some (.int .u8 (byt a0 (IntKind.i64.wrap (a1 + t22)))), some (.int .u64 (IntKind.u64.wrap ((byt a0 (IntKind.i64.wrap (a1 + t22))).tmod 128))), none, none, none, none, none, none, none, none, none, none, none, none, none, none, none, none, none, none, none, none, none, none, none, none, none, none, none, none, none, none, none, none, none, none, none, none, none, none, none, none, none, none, none, none, none, none, none, none, none, none, none, none, none, none, none, none, none, none, none, none, none]) (by kernel_rfl) ?_
                exact J47 (Option.some.inj hp87) _ _ hF24
            · skip
              have hp88 := ite_f hv42 h81
              refine sx_run 7 (todo' := [.code (c35 [1, 1, 1, 0, 1, 0, 0, 1, 0, 0, 1, 1, 1]), .inBlock 1, .code (c35 [1, 1, 1, 0, 1, 0, 0, 1, 1]), .inLoop (c35 [1, 1, 1, 0, 1, 0, 0]), .inBlock 0, .code (c35 [1, 1, 1, 1])]) (us := [(42, .bool false), (43, undef), (44, undef), (45, .bool false)]) (by kernel_rfl) ?_
              refine Runs.fill (m := [some (.string a0), some (.int .i64 a1), none, none, none, none, none, some (.int .u64 t21), some (.int .i64 t22), some (.int .u8 (byt a0 (IntKind.i64.wrap (a1 + t22)))), some (.int .u64 (IntKind.u64.wrap ((byt a0 (IntKind.i64.wrap (a1 + t22))).tmod 128))), none, none, none, none, none, none, none, none, none, none, none, none, none, none, none, none, none, none, none, none, none, none, none, none, none, none, none, none, none, none, none, none, none, none, none, none, none, none, none, none, none, none, none, none, none, none, none, none, none, none, none, none, none, none, none, none, none, none, none, none, none]) (by kernel_rfl) ?_
              exact J47 (Option.some.inj hp88) _ _ hF24
          · skip
            have hp89 := ite_f hp35 h37
            refine sx_run 4 (todo' := [.code (c35 [1, 1, 1, 1])]) (us := [(29, .bool false)]) (by kernel_rfl) ?_
            refine Runs.fill (m := [none, none, none, none, none, none, none, none, none, none, none, none, none, none, none, none, none, none, none, none, none, none, none, none, none, none, none, none, none, none, none, none, none, none, none, none, none, none, none, none, none, none, none, none, none, none, none, none, none, none, none, none, none, none, none, none, none, none, none, none, none, none, none, none, none, none, none, none, none, none, none, none]) (by kernel_rfl) ?_
            exact J17 ((Option.some.inj hp89).trans he27) _ _ hF24
        · skip
          have hp90 := ite_f hb28 h34
          refine sx_run 7 (todo' := [.code (c35 [1, 1, 1, 1])]) (us := [(26, .bool false), (27, undef), (28, undef), (29, .bool false)]) (by kernel_rfl) ?_
          refine Runs.fill (m := [none, none, none, none, none, none, none, none, none, none, none, none, none, none, none, none, none, none, none, none, none, none, none, none, none, none, none, none, none, none, none, none, none, none, none, none, none, none, none, none, none, none, none, none, none, none, none, none, none, none, none, none, none, none, none, none, none, none, none, none, none, none, none, none, none, none, none, none, none, none, none, none]) (by kernel_rfl) ?_
          exact J17 ((Option.some.inj hp90).trans he27) _ _ hF24
      refine Runs.fill (m := [some (.string a0), some (.int .i64 a1), none, none, none, none, none, some (.int .u64 0), some (.int .i64 0), none, none, none, none, none, none, none, none, none, none, none, none, none, none, none, none, none, none, none, none, none, none, none, none, none, none, none, none, none, none, none, none, none, none, none, none, none, none, none, none, none, none, none, none, none, none, none, none, none, none, none, none, none, none, none, none, none, none, none, none, none, none, none]) (by kernel_rfl) ?_
      exact L31 0 0 _ hv12 rfl _ _ hF0

noncomputable def c11 (p : List Nat) : Code := sub (bodyOf Try.f11) p
def weirlaw10_num.f (a0 : Int) : Option Int :=
  some (a0)
theorem weirlaw10_num.ok (a0 : Int) (w0 : World) (r : Int) (hp0 : weirlaw10_num.f a0 = some r) :
    Calls Try.prog 11 #[.int .i64 a0] w0 (fun e w' => e = .returned (.int .i64 r) ∧ Fr [] w0 w') := by
  refine calls_abs ?_; intro R hR
  unfold weirlaw10_num.f at hp0
  have hF0 : Fr [] w0 w0 := Fr.refl _ _
  refine calls_of_runs (fn := Try.f11) (c := c11 []) Try.func11 (by kernel_rfl) (al := [.int .i64 a0]) rfl (n := 3) rfl ?_
  refine sx_run 9 (todo' := [.code (c11 [1, 1])]) (us := [(2, .int .i64 0), (3, .int .i64 a0), (2, .int .i64 a0)]) (by kernel_rfl) ?_
  refine runs_ret (fn := Try.f11) (v := .int .i64 a0) Try.func11 (by kernel_rfl) ?_
  have hr1 := (Option.some.inj hp0)
  subst hr1
  exact hR _ _ ⟨rfl, hF0⟩

noncomputable def c12 (p : List Nat) : Code := sub (bodyOf Try.f12) p
def weirlaw10_few.f (x0 : List api_Final) (x1 : List api_Final) : Option Bool :=
  (if (decide ((IntKind.i64.wrap ((x0.length : Int) + (x1.length : Int))) ≤ 4000)) = true then some (true) else some (false))
theorem weirlaw10_few.ok (x0 : List api_Final) (x1 : List api_Final) (A0 : Option Addr) (c0 : Nat) (A1 : Option Addr) (c1 : Nat) (w0 : World) (h0 : SlR enc_api_Final 49 w0 A0 x0) (h1 : SlR enc_api_Final 49 w0 A1 x1) (r : Bool) (hp0 : weirlaw10_few.f x0 x1 = some r) :
    Calls Try.prog 12 #[.slice A0 x0.length c0, .slice A1 x1.length c1] w0 (fun e w' => e = .returned (.bool r) ∧ Fr [] w0 w') := by
  refine calls_abs ?_; intro R hR
  unfold weirlaw10_few.f at hp0
  have hF0 : Fr [] w0 w0 := Fr.refl _ _
  refine calls_of_runs (fn := Try.f12) (c := c12 []) Try.func12 (by kernel_rfl) (al := [.slice A0 x0.length c0, .slice A1 x1.length c1]) rfl (n := 9) rfl ?_
  refine sx_split 12 (todo' := [.inRegion (opsOf (c12 [1, 0])) [6], .code (c12 [1, 1])]) (us := [(4, .bool false), (5, .slice A0 x0.length c0), (6, .int .i64 (x0.length : Int)), (7, .slice A1 x1.length c1), (8, .int .i64 (x1.length : Int)), (9, .int .i64 (IntKind.i64.wrap ((x0.length : Int) + (x1.length : Int))))]) (d := 10) (t := (decide ((IntKind.i64.wrap ((x0.length : Int) + (x1.length : Int))) ≤ 4000))) (by kernel_rfl) (fun h1 => ?_) (fun h2 => ?_)
  · skip
    have hp3 := ite_t hp0 h1
    refine sx_run 2 (todo' := [.code (c12 [1, 1])]) (us := [(4, .bool true)]) (by kernel_rfl) ?_
    refine runs_ret (fn := Try.f12) (v := .bool true) Try.func12 (by kernel_rfl) ?_
    have hr4 := (Option.some.inj hp3)
    subst hr4
    exact hR _ _ ⟨rfl, hF0⟩
  · skip
    have hp5 := ite_f hp0 h2
    refine sx_run 2 (todo' := [.code (c12 [1, 1])]) (us := [(4, .bool false)]) (by kernel_rfl) ?_
    refine runs_ret (fn := Try.f12) (v := .bool false) Try.func12 (by kernel_rfl) ?_
    have hr6 := (Option.some.inj hp5)
    subst hr6
    exact hR _ _ ⟨rfl, hF0⟩

noncomputable def c22 (p : List Nat) : Code := sub (bodyOf Try.f22) p
def weirref10_Compare.l0 (a0 : api_Final) (a1 : api_Final) (t37 : Int) : Option (Sum Unit Int) :=
  (if (decide (t37 < 48)) = true then (if 0 ≤ t37 ∧ t37 < 48 then (if 0 ≤ t37 ∧ t37 < 48 then (if (decide ((vget a0.V t37) < (vget a1.V t37))) = true then some (.inr ((-1))) else (if 0 ≤ t37 ∧ t37 < 48 then (if 0 ≤ t37 ∧ t37 < 48 then (if (decide ((vget a0.V t37) > (vget a1.V t37))) = true then some (.inr (1)) else (weirref10_Compare.l0 a0 a1 (IntKind.i64.wrap (t37 + 1)))) else none) else none)) else none) else none) else some (.inl ()))
 partial_fixpoint
def weirref10_Compare.f (a0 : api_Final) (a1 : api_Final) : Option Int :=
  (if (a0.N != a1.N) = true then (if (decide (a0.N < a1.N)) = true then some ((-1)) else some (1)) else (weirref10_Compare.l0 a0 a1 0 >>= (fun | .inl () => some (0) | .inr e => some e)))
theorem weirref10_Compare.ok (a0 : api_Final) (a1 : api_Final) (w0 : World) (r : Int) (hp0 : weirref10_Compare.f a0 a1 = some r) :
    Calls Try.prog 22 #[.agg (enc_api_Final a0).toArray, .agg (enc_api_Final a1).toArray] w0 (fun e w' => e = .returned (.int .i64 r) ∧ Fr [] w0 w') := by
  refine calls_abs ?_; intro R hR
  unfold weirref10_Compare.f at hp0
  have hF0 : Fr [] w0 w0 := Fr.refl _ _
  refine calls_of_runs (fn := Try.f22) (c := c22 []) Try.func22 (by kernel_rfl) (al := [.agg (enc_api_Final a0).toArray, .agg (enc_api_Final a1).toArray]) rfl (n := 36) rfl ?_
  refine sx_run 2 (todo' := [.inRegion (opsOf (c22 [0])) [0, 1, 2], .code (c22 [1])]) (us := []) (by kernel_rfl) ?_
  refine r_box (x := (.tmp 0)) (v := .agg (enc_api_Final a0).toArray) (c := (c22 [0])) (i := 0) (ty := 0) (d := (some 2)) (t := 24) (cs := enc_api_Final a0) (by kernel_rfl) (by kernel_rfl) (by kernel_rfl) (by kernel_rfl) ?_
  intro b1 w2 hn3
  have hg5 : w0.heap.size ≤ b1 := by rw [hn3.num]; exact hF0.size
  have hF7 : Fr [] w0 w2 := hF0.step0 hn3.fr
  have hb4 : Blk w2 b1 24 (enc_api_Final a0) := hn3.blk
  refine r_box (x := (.tmp 1)) (v := .agg (enc_api_Final a1).toArray) (c := (c22 [0])) (i := 1) (ty := 0) (d := (some 3)) (t := 24) (cs := enc_api_Final a1) (by kernel_rfl) (by kernel_rfl) (by kernel_rfl) (by kernel_rfl) ?_
  intro b8 w9 hn10
  have hg12 : w0.heap.size ≤ b8 := by rw [hn10.num]; exact hF7.size
  have hn14 : b1 ≠ b8 := hn10.ne hb4
  have hF15 : Fr [] w0 w9 := hF7.step0 hn10.fr
  have hb16 := hb4.fr0 hn10.fr
  have hb11 : Blk w9 b8 24 (enc_api_Final a1) := hn10.blk
  refine sx_run 6 (todo' := [.inRegion (opsOf (c22 [1, 0, 0])) [1, 2, 3, 4], .code (c22 [1, 0, 1]), .code (c22 [1, 1])]) (us := [(4, .int .i64 0), (6, .pointer (some ((⟨b1, 0, none⟩ : Addr).add 0)))]) (by kernel_rfl) ?_
  refine r_load (c := (c22 [1, 0, 0])) (i := 1) (ty := 3) (d := (some 7)) (t := 3) (x := (.tmp 6)) (p := ((⟨b1, 0, none⟩ : Addr).add 0)) (v := .int .i64 a0.N) (by kernel_rfl) (by kernel_rfl) (by kernel_rfl) (loads_at hb16.cells (by kernel_rfl) (by kernel_rfl)) ?_
  refine sx_run 1 (todo' := [.inRegion (opsOf (c22 [1, 0, 0])) [3, 4], .code (c22 [1, 0, 1]), .code (c22 [1, 1])]) (us := [(8, .pointer (some ((⟨b8, 0, none⟩ : Addr).add 0)))]) (by kernel_rfl) ?_
  refine r_load (c := (c22 [1, 0, 0])) (i := 3) (ty := 3) (d := (some 9)) (t := 3) (x := (.tmp 8)) (p := ((⟨b8, 0, none⟩ : Addr).add 0)) (v := .int .i64 a1.N) (by kernel_rfl) (by kernel_rfl) (by kernel_rfl) (loads_at hb11.cells (by kernel_rfl) (by kernel_rfl)) ?_
  refine sx_split 1 (todo' := [.inRegion (opsOf (c22 [1, 0, 0])) [], .code (c22 [1, 0, 1]), .code (c22 [1, 1])]) (us := []) (d := 10) (t := (a0.N != a1.N)) (by kernel_rfl) (fun h17 => ?_) (fun h18 => ?_)
  · skip
    have hp19 := ite_t hp0 h17
    refine sx_run 6 (todo' := [.inRegion (opsOf (c22 [1, 0, 1, 0, 0, 0])) [1, 2, 3, 4], .code (c22 [1, 0, 1, 0, 0, 1]), .code (c22 [1, 0, 1, 0, 1]), .code (c22 [1, 1])]) (us := [(11, .pointer (some ((⟨b1, 0, none⟩ : Addr).add 0)))]) (by kernel_rfl) ?_
    refine r_load (c := (c22 [1, 0, 1, 0, 0, 0])) (i := 1) (ty := 3) (d := (some 12)) (t := 3) (x := (.tmp 11)) (p := ((⟨b1, 0, none⟩ : Addr).add 0)) (v := .int .i64 a0.N) (by kernel_rfl) (by kernel_rfl) (by kernel_rfl) (loads_at hb16.cells (by kernel_rfl) (by kernel_rfl)) ?_
    refine sx_run 1 (todo' := [.inRegion (opsOf (c22 [1, 0, 1, 0, 0, 0])) [3, 4], .code (c22 [1, 0, 1, 0, 0, 1]), .code (c22 [1, 0, 1, 0, 1]), .code (c22 [1, 1])]) (us := [(13, .pointer (some ((⟨b8, 0, none⟩ : Addr).add 0)))]) (by kernel_rfl) ?_
    refine r_load (c := (c22 [1, 0, 1, 0, 0, 0])) (i := 3) (ty := 3) (d := (some 14)) (t := 3) (x := (.tmp 13)) (p := ((⟨b8, 0, none⟩ : Addr).add 0)) (v := .int .i64 a1.N) (by kernel_rfl) (by kernel_rfl) (by kernel_rfl) (loads_at hb11.cells (by kernel_rfl) (by kernel_rfl)) ?_
    refine sx_split 1 (todo' := [.inRegion (opsOf (c22 [1, 0, 1, 0, 0, 0])) [], .code (c22 [1, 0, 1, 0, 0, 1]), .code (c22 [1, 0, 1, 0, 1]), .code (c22 [1, 1])]) (us := []) (d := 15) (t := (decide (a0.N < a1.N))) (by kernel_rfl) (fun h20 => ?_) (fun h21 => ?_)
    · skip
      have hp22 := ite_t hp19 h20
      refine sx_run 6 (todo' := [.code (c22 [1, 0, 1, 0, 0, 1, 0, 1]), .code (c22 [1, 0, 1, 0, 1]), .code (c22 [1, 1])]) (us := [(4, .int .i64 (-1))]) (by kernel_rfl) ?_
      refine runs_ret (fn := Try.f22) (v := .int .i64 (-1)) Try.func22 (by kernel_rfl) ?_
      have hr23 := (Option.some.inj hp22)
      subst hr23
      exact hR _ _ ⟨rfl, hF15⟩
    · skip
      have hp24 := ite_f hp19 h21
      refine sx_run 7 (todo' := [.code (c22 [1, 0, 1, 0, 1, 1]), .code (c22 [1, 1])]) (us := [(4, .int .i64 1)]) (by kernel_rfl) ?_
      refine runs_ret (fn := Try.f22) (v := .int .i64 1) Try.func22 (by kernel_rfl) ?_
      have hr25 := (Option.some.inj hp24)
      subst hr25
      exact hR _ _ ⟨rfl, hF15⟩
  · skip
    have hp26 := ite_f hp0 h18
    refine sx_run 10 (todo' := [.code (c22 [1, 1, 0, 1, 0, 0]), .inLoop (c22 [1, 1, 0, 1, 0, 0]), .inBlock 0, .code (c22 [1, 1, 1])]) (us := [(5, .int .i64 0)]) (by kernel_rfl) ?_
    obtain ⟨v27, hv28, hp29⟩ := bind_some' hp26
    have hq32 : ∀ x, Sum.inr x = v27 → x = r := by intro x hx; subst hx; simpa using hp29
    have J33 : ∀ (he35 : Sum.inl () = v27) (l34 : List Value) (w30 : World) (hF31 : Fr [] w0 w30), Runs Try.prog 22 [.code (c22 [1, 1, 1])] (fill [none, none, none, none, none, none, none, none, none, none, none, none, none, none, none, none, none, none, none, none, none, none, none, none, none, none, none, none, none, none, none, none, none, none, none, none, none, none] l34) w30 R := by
      intro he35 l34 w30 hF31
      subst he35
      try dsimp only at hp29
      refine sx_run 4 (todo' := [.code (c22 [1, 1, 1, 1])]) (us := [(4, .int .i64 0)]) (by kernel_rfl) ?_
      refine runs_ret (fn := Try.f22) (v := .int .i64 0) Try.func22 (by kernel_rfl) ?_
      have hr36 := (Option.some.inj hp29)
      subst hr36
      exact hR _ _ ⟨rfl, hF31⟩
    have L48 : ∀ (t37 : Int) (e43 : Sum Unit Int), weirref10_Compare.l0 a0 a1 t37 = some e43 → e43 = v27 → ∀ (l42 : List Value) (w38 : World) (hF39 : Fr [] w0 w38) (hb40 : Blk w38 b1 24 (enc_api_Final a0)) (hb41 : Blk w38 b8 24 (enc_api_Final a1)), Runs Try.prog 22 [.code (c22 [1, 1, 0, 1, 0, 0]), .inLoop (c22 [1, 1, 0, 1, 0, 0]), .inBlock 0, .code (c22 [1, 1, 1])] (fill [none, none, some (.pointer (some ⟨b1, 0, none⟩)), some (.pointer (some ⟨b8, 0, none⟩)), none, some (.int .i64 t37), none, none, none, none, none, none, none, none, none, none, none, none, none, none, none, none, none, none, none, none, none, none, none, none, none, none, none, none, none, none, none, none] l42) w38 R := by
      refine weirref10_Compare.l0.partial_correctness a0 a1 (fun t37 e43 => e43 = v27 → ∀ (l42 : List Value) (w38 : World) (hF39 : Fr [] w0 w38) (hb40 : Blk w38 b1 24 (enc_api_Final a0)) (hb41 : Blk w38 b8 24 (enc_api_Final a1)), Runs Try.prog 22 [.code (c22 [1, 1, 0, 1, 0, 0]), .inLoop (c22 [1, 1, 0, 1, 0, 0]), .inBlock 0, .code (c22 [1, 1, 1])] (fill [none, none, some (.pointer (some ⟨b1, 0, none⟩)), some (.pointer (some ⟨b8, 0, none⟩)), none, some (.int .i64 t37), none, none, none, none, none, none, none, none, none, none, none, none, none, none, none, none, none, none, none, none, none, none, none, none, none, none, none, none, none, none, none, none] l42) w38 R) ?_
      intro rec47 ih46 t37 e43 hb45 he44 l42 w38 hF39 hb40 hb41
      have hq49 : ∀ x, Sum.inr x = e43 → x = r := fun x hx => hq32 x (hx.trans he44)
      refine sx_split 5 (todo' := [.inRegion (opsOf (c22 [1, 1, 0, 1, 0, 0, 0, 0])) [], .code (c22 [1, 1, 0, 1, 0, 0, 0, 1]), .code (c22 [1, 1, 0, 1, 0, 0, 1]), .inLoop (c22 [1, 1, 0, 1, 0, 0]), .inBlock 0, .code (c22 [1, 1, 1])]) (us := [(16, .int .i64 t37)]) (d := 17) (t := (decide (t37 < 48))) (by kernel_rfl) (fun h50 => ?_) (fun h51 => ?_)
      · skip
        have hp52 := ite_t hb45 h50
        refine sx_run 7 (todo' := [.code (c22 [1, 1, 0, 1, 0, 0, 1, 0, 0, 0, 0]), .code (c22 [1, 1, 0, 1, 0, 0, 1, 0, 0, 0, 1]), .code (c22 [1, 1, 0, 1, 0, 0, 1, 0, 0, 1]), .inBlock 1, .code (c22 [1, 1, 0, 1, 0, 0, 1, 1]), .inLoop (c22 [1, 1, 0, 1, 0, 0]), .inBlock 0, .code (c22 [1, 1, 1])]) (us := []) (by kernel_rfl) ?_
        refine r_quiet (C := Ext w38) (c := (c22 [1, 1, 0, 1, 0, 0, 1, 0, 0, 0, 0])) (id := 8) (by kernel_rfl) (by kernel_rfl) (by kernel_rfl) (is := [0, 1, 2, 3, 4, 5, 6, 7, 8]) (by kernel_rfl) (ext_drew _) ?_
        refine q_run 2 (is' := [2, 3, 4, 5, 6, 7, 8]) (us := [(20, .int .i64 t37), (21, .pointer (some ((⟨b1, 0, none⟩ : Addr).add 1)))]) (by kernel_rfl) ?_
        obtain ⟨g53, hp54⟩ := ite_some hp52
        refine q_indexArr (c := (c22 [1, 1, 0, 1, 0, 0, 1, 0, 0, 0, 0])) (i := 2) (ty := 0) (d := (some 22)) (t := 22) (e := 2) (sz := 1) (kk := .i64) (x := (.tmp 21)) (y := (.tmp 20)) (a := ((⟨b1, 0, none⟩ : Addr).add 1)) (n := 48) (j := t37) (by kernel_rfl) (by kernel_rfl) (by kernel_rfl) (by kernel_rfl) (by kernel_rfl) (by kernel_rfl) g53.1 g53.2 ?_
        refine q_load (c := (c22 [1, 1, 0, 1, 0, 0, 1, 0, 0, 0, 0])) (i := 3) (ty := 2) (d := (some 23)) (t := 2) (x := (.tmp 22)) (p := ((((⟨b1, 0, none⟩ : Addr).add 1) : Addr).add (t37.toNat * 1))) (v := .int .i64 (vget a0.V t37)) (by kernel_rfl) (by kernel_rfl) (by kernel_rfl) (fun w hC => (loads_vget (sub_api_Final_V (hb40.fr0 (Fr.of_ext hC)).cells) (by kernel_rfl) g53.1 g53.2)) ?_
        refine q_run 2 (is' := [6, 7, 8]) (us := [(24, .int .i64 t37), (25, .pointer (some ((⟨b8, 0, none⟩ : Addr).add 1)))]) (by kernel_rfl) ?_
        obtain ⟨g55, hp56⟩ := ite_some hp54
        refine q_indexArr (c := (c22 [1, 1, 0, 1, 0, 0, 1, 0, 0, 0, 0])) (i := 6) (ty := 0) (d := (some 26)) (t := 22) (e := 2) (sz := 1) (kk := .i64) (x := (.tmp 25)) (y := (.tmp 24)) (a := ((⟨b8, 0, none⟩ : Addr).add 1)) (n := 48) (j := t37) (by kernel_rfl) (by kernel_rfl) (by kernel_rfl) (by kernel_rfl) (by kernel_rfl) (by kernel_rfl) g55.1 g55.2 ?_
        refine q_load (c := (c22 [1, 1, 0, 1, 0, 0, 1, 0, 0, 0, 0])) (i := 7) (ty := 2) (d := (some 27)) (t := 2) (x := (.tmp 26)) (p := ((((⟨b8, 0, none⟩ : Addr).add 1) : Addr).add (t37.toNat * 1))) (v := .int .i64 (vget a1.V t37)) (by kernel_rfl) (by kernel_rfl) (by kernel_rfl) (fun w hC => (loads_vget (sub_api_Final_V (hb41.fr0 (Fr.of_ext hC)).cells) (by kernel_rfl) g55.1 g55.2)) ?_
        refine q_splitr 1 (is' := []) (us := []) (d := 28) (t := (decide ((vget a0.V t37) < (vget a1.V t37)))) (by kernel_rfl) (fun h57 => ?_) (fun h58 => ?_)
        · skip
          have hp59 := ite_t hp56 h57
          refine Qs.nil ?_
          intro w60 hx61
          have hF62 : Fr [] w0 w60 := hF39.step0 (Fr.of_ext hx61)
          have hb63 := hb40.fr0 (Fr.of_ext hx61)
          have hb64 := hb41.fr0 (Fr.of_ext hx61)
          refine sx_run 5 (todo' := [.code (c22 [1, 1, 0, 1, 0, 0, 1, 0, 0, 0, 1, 0, 1]), .code (c22 [1, 1, 0, 1, 0, 0, 1, 0, 0, 1]), .inBlock 1, .code (c22 [1, 1, 0, 1, 0, 0, 1, 1]), .inLoop (c22 [1, 1, 0, 1, 0, 0]), .inBlock 0, .code (c22 [1, 1, 1])]) (us := [(4, .int .i64 (-1))]) (by kernel_rfl) ?_
          refine runs_ret (fn := Try.f22) (v := .int .i64 (-1)) Try.func22 (by kernel_rfl) ?_
          have hr65 := (hq49 _ (Option.some.inj hp59))
          subst hr65
          exact hR _ _ ⟨rfl, hF62⟩
        · skip
          have hp66 := ite_f hp56 h58
          refine Qs.nil ?_
          intro w67 hx68
          have hF69 : Fr [] w0 w67 := hF39.step0 (Fr.of_ext hx68)
          have hb70 := hb40.fr0 (Fr.of_ext hx68)
          have hb71 := hb41.fr0 (Fr.of_ext hx68)
          refine sx_run 3 (todo' := [.code (c22 [1, 1, 0, 1, 0, 0, 1, 0, 0, 1, 0]), .code (c22 [1, 1, 0, 1, 0, 0, 1, 0, 0, 1, 1]), .inBlock 1, .code (c22 [1, 1, 0, 1, 0, 0, 1, 1]), .inLoop (c22 [1, 1, 0, 1, 0, 0]), .inBlock 0, .code (c22 [1, 1, 1])]) (us := []) (by kernel_rfl) ?_
          refine r_quiet (C := Ext w67) (c := (c22 [1, 1, 0, 1, 0, 0, 1, 0, 0, 1, 0])) (id := 10) (by kernel_rfl) (by kernel_rfl) (by kernel_rfl) (is := [0, 1, 2, 3, 4, 5, 6, 7, 8]) (by kernel_rfl) (ext_drew _) ?_
          refine q_run 2 (is' := [2, 3, 4, 5, 6, 7, 8]) (us := [(29, .int .i64 t37), (30, .pointer (some ((⟨b1, 0, none⟩ : Addr).add 1)))]) (by kernel_rfl) ?_
          obtain ⟨g72, hp73⟩ := ite_some hp66
          refine q_indexArr (c := (c22 [1, 1, 0, 1, 0, 0, 1, 0, 0, 1, 0])) (i := 2) (ty := 0) (d := (some 31)) (t := 22) (e := 2) (sz := 1) (kk := .i64) (x := (.tmp 30)) (y := (.tmp 29)) (a := ((⟨b1, 0, none⟩ : Addr).add 1)) (n := 48) (j := t37) (by kernel_rfl) (by kernel_rfl) (by kernel_rfl) (by kernel_rfl) (by kernel_rfl) (by kernel_rfl) g72.1 g72.2 ?_
          refine q_load (c := (c22 [1, 1, 0, 1, 0, 0, 1, 0, 0, 1, 0])) (i := 3) (ty := 2) (d := (some 32)) (t := 2) (x := (.tmp 31)) (p := ((((⟨b1, 0, none⟩ : Addr).add 1) : Addr).add (t37.toNat * 1))) (v := .int .i64 (vget a0.V t37)) (by kernel_rfl) (by kernel_rfl) (by kernel_rfl) (fun w hC => (loads_vget (sub_api_Final_V (hb70.fr0 (Fr.of_ext hC)).cells) (by kernel_rfl) g72.1 g72.2)) ?_
          refine q_run 2 (is' := [6, 7, 8]) (us := [(33, .int .i64 t37), (34, .pointer (some ((⟨b8, 0, none⟩ : Addr).add 1)))]) (by kernel_rfl) ?_
          obtain ⟨g74, hp75⟩ := ite_some hp73
          refine q_indexArr (c := (c22 [1, 1, 0, 1, 0, 0, 1, 0, 0, 1, 0])) (i := 6) (ty := 0) (d := (some 35)) (t := 22) (e := 2) (sz := 1) (kk := .i64) (x := (.tmp 34)) (y := (.tmp 33)) (a := ((⟨b8, 0, none⟩ : Addr).add 1)) (n := 48) (j := t37) (by kernel_rfl) (by kernel_rfl) (by kernel_rfl) (by kernel_rfl) (by kernel_rfl) (by kernel_rfl) g74.1 g74.2 ?_
          refine q_load (c := (c22 [1, 1, 0, 1, 0, 0, 1, 0, 0, 1, 0])) (i := 7) (ty := 2) (d := (some 36)) (t := 2) (x := (.tmp 35)) (p := ((((⟨b8, 0, none⟩ : Addr).add 1) : Addr).add (t37.toNat * 1))) (v := .int .i64 (vget a1.V t37)) (by kernel_rfl) (by kernel_rfl) (by kernel_rfl) (fun w hC => (loads_vget (sub_api_Final_V (hb71.fr0 (Fr.of_ext hC)).cells) (by kernel_rfl) g74.1 g74.2)) ?_
          refine q_splitr 1 (is' := []) (us := []) (d := 37) (t := (decide ((vget a0.V t37) > (vget a1.V t37)))) (by kernel_rfl) (fun h76 => ?_) (fun h77 => ?_)
          · skip
            have hp78 := ite_t hp75 h76
            refine Qs.nil ?_
            intro w79 hx80
            have hF81 : Fr [] w0 w79 := hF69.step0 (Fr.of_ext hx80)
            have hb82 := hb70.fr0 (Fr.of_ext hx80)
            have hb83 := hb71.fr0 (Fr.of_ext hx80)
            refine sx_run 5 (todo' := [.code (c22 [1, 1, 0, 1, 0, 0, 1, 0, 0, 1, 1, 0, 1]), .inBlock 1, .code (c22 [1, 1, 0, 1, 0, 0, 1, 1]), .inLoop (c22 [1, 1, 0, 1, 0, 0]), .inBlock 0, .code (c22 [1, 1, 1])]) (us := [(4, .int .i64 1)]) (by kernel_rfl) ?_
            refine runs_ret (fn := Try.f22) (v := .int .i64 1) Try.func22 (by kernel_rfl) ?_
            have hr84 := (hq49 _ (Option.some.inj hp78))
            subst hr84
            exact hR _ _ ⟨rfl, hF81⟩
          · skip
            have hp85 := ite_f hp75 h77
            refine Qs.nil ?_
            intro w86 hx87
            have hF88 : Fr [] w0 w86 := hF69.step0 (Fr.of_ext hx87)
            have hb89 := hb70.fr0 (Fr.of_ext hx87)
            have hb90 := hb71.fr0 (Fr.of_ext hx87)
            refine sx_run 8 (todo' := [.inLoop (c22 [1, 1, 0, 1, 0, 0]), .inBlock 0, .code (c22 [1, 1, 1])]) (us := [(18, .int .i64 t37), (19, .int .i64 (IntKind.i64.wrap (t37 + 1))), (5, .int .i64 (IntKind.i64.wrap (t37 + 1)))]) (by kernel_rfl) ?_
            refine sx_run 1 (todo' := [.code (c22 [1, 1, 0, 1, 0, 0]), .inLoop (c22 [1, 1, 0, 1, 0, 0]), .inBlock 0, .code (c22 [1, 1, 1])]) (us := []) (by kernel_rfl) ?_
            refine Runs.fill (m := [none, none, some (.pointer (some ⟨b1, 0, none⟩)), some (.pointer (some ⟨b8, 0, none⟩)), none, some (.int .i64 (IntKind.i64.wrap (t37 + 1))), none, none, none, none, none, none, none, none, none, none, none, none, none, none, none, none, none, none, none, none, none, none, none, none, none, none, none, none, none, none, none, none]) (by kernel_rfl) ?_
            exact ih46 (IntKind.i64.wrap (t37 + 1)) _ hp85 he44 _ _ hF88 hb89 hb90
      · skip
        have hp91 := ite_f hb45 h51
        refine sx_run 3 (todo' := [.code (c22 [1, 1, 1])]) (us := []) (by kernel_rfl) ?_
        refine Runs.fill (m := [none, none, none, none, none, none, none, none, none, none, none, none, none, none, none, none, none, none, none, none, none, none, none, none, none, none, none, none, none, none, none, none, none, none, none, none, none, none]) (by kernel_rfl) ?_
        exact J33 ((Option.some.inj hp91).trans he44) _ _ hF39
    refine Runs.fill (m := [none, none, some (.pointer (some ⟨b1, 0, none⟩)), some (.pointer (some ⟨b8, 0, none⟩)), none, some (.int .i64 0), none, none, none, none, none, none, none, none, none, none, none, none, none, none, none, none, none, none, none, none, none, none, none, none, none, none, none, none, none, none, none, none]) (by kernel_rfl) ?_
    exact L48 0 _ hv28 rfl _ _ hF15 hb16 hb11
end Go.Proofs.Yteppciglfdiljaa.K
