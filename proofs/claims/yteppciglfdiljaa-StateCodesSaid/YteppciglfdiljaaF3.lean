import Derived.Test.YteppciglfdiljaaS
import Derived.Test.YteppciglfdiljaaF1
import Derived.Test.YteppciglfdiljaaF2
import Derived.Test.YteppciglfdiljaaKB
import Derived.Test.YteppciglfdiljaaProg
set_option linter.unusedVariables false
set_option linter.unusedSimpArgs false
namespace Go.Proofs.Yteppciglfdiljaa.K
open Go Go.RowKit
noncomputable def c7 (p : List Nat) : Code := sub (bodyOf Try.f7) p
def state_Code.l0 (a0 : api_Final) (t65 : Int) (t66 : ByteArray) : Option ByteArray :=
  (if (decide (t65 < (((a0.V.toList.take a0.N.toNat).drop 0).length : Int))) = true then (if 0 ≤ t65 ∧ t65 < (((a0.V.toList.take a0.N.toNat).drop 0).length : Int) then (word_Put.f (gt ((a0.V.toList.take a0.N.toNat).drop 0) t65) >>= fun u86 => (if t66.size + u86.size ≤ 140737488355328 then (state_Code.l0 a0 (IntKind.i64.wrap (t65 + 1)) (t66 ++ u86)) else none)) else none) else some (t66))
 partial_fixpoint
def state_Code.f (a0 : api_Final) : Option (ByteArray × Int) :=
  (state_Check.f a0 >>= fun u8 => (if (u8 != 0) = true then some (((⟨#[]⟩ : ByteArray), u8)) else (word_Put.f a0.N >>= fun u29 => (if (⟨#[]⟩ : ByteArray).size + u29.size ≤ 140737488355328 then (if 0 ≤ a0.N ∧ a0.N ≤ 48 then (state_Code.l0 a0 0 ((⟨#[]⟩ : ByteArray) ++ u29) >>= (fun t54 => some ((t54, 0)))) else none) else none))))
theorem state_Code.ok (a0 : api_Final) (w0 : World) (r : ByteArray × Int) (hp0 : state_Code.f a0 = some r) :
    Calls Try.prog 7 #[.agg (enc_api_Final a0).toArray] w0 (fun e w' => e = .returned (.tuple #[.string r.1, .int .i64 r.2]) ∧ Fr [] w0 w') := by
  refine calls_abs ?_; intro R hR
  unfold state_Code.f at hp0
  have hF0 : Fr [] w0 w0 := Fr.refl _ _
  refine calls_of_runs (fn := Try.f7) (c := c7 []) Try.func7 (by kernel_rfl) (al := [.agg (enc_api_Final a0).toArray]) rfl (n := 30) rfl ?_
  refine sx_run 2 (todo' := [.inRegion (opsOf (c7 [0])) [0, 1, 2], .code (c7 [1])]) (us := []) (by kernel_rfl) ?_
  refine r_box (x := (.tmp 0)) (v := .agg (enc_api_Final a0).toArray) (c := (c7 [0])) (i := 0) (ty := 0) (d := (some 1)) (t := 24) (cs := enc_api_Final a0) (by kernel_rfl) (by kernel_rfl) (by kernel_rfl) (by kernel_rfl) ?_
  intro b1 w2 hn3
  have hg5 : w0.heap.size ≤ b1 := by rw [hn3.num]; exact hF0.size
  have hF7 : Fr [] w0 w2 := hF0.step0 hn3.fr
  have hb4 : Blk w2 b1 24 (enc_api_Final a0) := hn3.blk
  refine sx_run 6 (todo' := [.inRegion (opsOf (c7 [1, 0, 0])) [0, 1, 2], .code (c7 [1, 0, 1]), .code (c7 [1, 1])]) (us := [(2, .string (⟨#[]⟩ : ByteArray)), (3, .int .i64 0)]) (by kernel_rfl) ?_
  refine r_load (c := (c7 [1, 0, 0])) (i := 0) (ty := 24) (d := (some 8)) (t := 24) (x := (.tmp 1)) (p := ⟨b1, 0, none⟩) (v := .agg (enc_api_Final a0).toArray) (by kernel_rfl) (by kernel_rfl) (by kernel_rfl) (loads_agg hb4.cells (by kernel_rfl) (len_st (len_api_Final _) (by kernel_rfl))) ?_
  obtain ⟨u8, hu9, hp10⟩ := bind_some' hp0
  refine r_call1 (c := (c7 [1, 0, 0])) (i := 1) (d := (some 9)) (g := 19) (args := #[.agg (enc_api_Final a0).toArray]) (by kernel_rfl) (by kernel_rfl) (by kernel_rfl) (by kernel_rfl) (state_Check.ok a0 _ _ hu9) ?_
  rintro _ w11 ⟨rfl, hf12⟩
  refine ⟨.int .i64 u8, rfl, ?_⟩
  have hF13 : Fr [] w0 w11 := hF7.step0 hf12
  have hb14 := hb4.fr0 hf12
  refine sx_split 6 (todo' := [.inRegion (opsOf (c7 [1, 0, 1, 0])) [], .code (c7 [1, 0, 1, 1]), .code (c7 [1, 1])]) (us := [(4, .int .i64 u8), (10, .int .i64 u8)]) (d := 11) (t := (u8 != 0)) (by kernel_rfl) (fun h15 => ?_) (fun h16 => ?_)
  · skip
    have hp17 := ite_t hp10 h15
    refine sx_run 8 (todo' := [.code (c7 [1, 0, 1, 1, 0, 1]), .code (c7 [1, 1])]) (us := [(12, .int .i64 u8), (2, .string (⟨#[]⟩ : ByteArray)), (3, .int .i64 u8)]) (by kernel_rfl) ?_
    refine runs_ret (fn := Try.f7) (v := .tuple #[.string (⟨#[]⟩ : ByteArray), .int .i64 u8]) Try.func7 (by kernel_rfl) ?_
    have hr18 := (Option.some.inj hp17)
    subst hr18
    exact hR _ _ ⟨rfl, hF13⟩
  · skip
    have hp19 := ite_f hp10 h16
    refine sx_run 5 (todo' := [.inRegion (opsOf (c7 [1, 1, 0])) [0], .code (c7 [1, 1, 1])]) (us := []) (by kernel_rfl) ?_
    refine r_alloc (z := .agg #[.pointer none, .slice none 0 0]) (c := (c7 [1, 1, 0])) (i := 0) (ty := 0) (d := (some 5)) (t := 58) (cs := [.pointer none, .slice none 0 0]) (by kernel_rfl) (by kernel_rfl) (by kernel_rfl) (by kernel_rfl) ?_
    intro b20 w21 hn22
    have hg24 : w0.heap.size ≤ b20 := by rw [hn22.num]; exact hF13.size
    have hn26 : b1 < b20 := by rw [hn22.num]; exact hb14.lt
    have hF27 : Fr [] w0 w21 := hF13.step0 hn22.fr
    have hb28 := hb14.fr0 hn22.fr
    have hb23 : Bd b20 ⟨#[]⟩ w21 := bd_new hn22 rfl
    refine sx_run 4 (todo' := [.inRegion (opsOf (c7 [1, 1, 1, 0])) [1, 2, 3], .code (c7 [1, 1, 1, 1])]) (us := [(13, .pointer (some ((⟨b1, 0, none⟩ : Addr).add 0)))]) (by kernel_rfl) ?_
    refine r_load (c := (c7 [1, 1, 1, 0])) (i := 1) (ty := 3) (d := (some 14)) (t := 3) (x := (.tmp 13)) (p := ((⟨b1, 0, none⟩ : Addr).add 0)) (v := .int .i64 a0.N) (by kernel_rfl) (by kernel_rfl) (by kernel_rfl) (loads_at hb28.cells (by kernel_rfl) (by kernel_rfl)) ?_
    obtain ⟨u29, hu30, hp31⟩ := bind_some' hp19
    refine r_call1 (c := (c7 [1, 1, 1, 0])) (i := 2) (d := (some 15)) (g := 31) (args := #[.int .i64 a0.N]) (by kernel_rfl) (by kernel_rfl) (by kernel_rfl) (by kernel_rfl) (word_Put.ok a0.N _ _ hu30) ?_
    rintro _ w32 ⟨rfl, hf33⟩
    refine ⟨.string u29, rfl, ?_⟩
    have hF34 : Fr [] w0 w32 := hF27.step0 hf33
    have hb35 := hb28.fr0 hf33
    have hb36 := hb23.below hf33
    obtain ⟨g37, hp38⟩ := ite_some hp31
    refine r_call1 (c := (c7 [1, 1, 1, 0])) (i := 3) (d := (some 16)) (g := 30) (args := #[.pointer (some ⟨b20, 0, none⟩), .string u29]) (by kernel_rfl) (by kernel_rfl) (by kernel_rfl) (by kernel_rfl) (bd_write b20 (⟨#[]⟩ : ByteArray) u29 _ hb36 g37) ?_
    rintro _ w39 ⟨rfl, hb40, hB41⟩
    refine ⟨.tuple #[.int .i64 (u29.size : Int), .nilIface], rfl, ?_⟩
    have hF42 : Fr [] w0 w39 := hF34.stepB hB41 hg24
    have hb43 := hb35.fr (Fr.of_below hB41) (not_range hn26)
    refine sx_run 6 (todo' := [.inRegion (opsOf (c7 [1, 1, 1, 1, 0, 0])) [2, 3, 4, 5], .code (c7 [1, 1, 1, 1, 0, 1]), .code (c7 [1, 1, 1, 1, 1])]) (us := [(17, .pointer (some ((⟨b1, 0, none⟩ : Addr).add 1))), (18, .pointer (some ((⟨b1, 0, none⟩ : Addr).add 0)))]) (by kernel_rfl) ?_
    refine r_load (c := (c7 [1, 1, 1, 1, 0, 0])) (i := 2) (ty := 3) (d := (some 19)) (t := 3) (x := (.tmp 18)) (p := ((⟨b1, 0, none⟩ : Addr).add 0)) (v := .int .i64 a0.N) (by kernel_rfl) (by kernel_rfl) (by kernel_rfl) (loads_at hb43.cells (by kernel_rfl) (by kernel_rfl)) ?_
    obtain ⟨g44, hp45⟩ := ite_some hp38
    obtain ⟨A46, c47, hr48, hs49, hs49b⟩ := cutArr (sub_api_Final_V hb43.cells) 0 a0.N.toNat (by omega) (by omega) (by omega)
    refine r_val (c := (c7 [1, 1, 1, 1, 0, 0])) (i := 3) (ty := 64) (d := (some 20)) (op := .slice 22 (.tmp 17) none (some (.tmp 19)) none) (v := .slice A46 ((a0.V.toList.take a0.N.toNat).drop 0).length c47) (by kernel_rfl) (by kernel_rfl) (fun o ho _ => x_cutArr_ns (e := 2) (k := .i64) (by kernel_rfl) (by kernel_rfl) (by kernel_rfl) (by kernel_rfl) g44 hr48 ho) ?_
    refine sx_run 5 (todo' := [.code (c7 [1, 1, 1, 1, 0, 1, 0, 0]), .inLoop (c7 [1, 1, 1, 1, 0, 1, 0, 0]), .inBlock 0, .code (c7 [1, 1, 1, 1, 1])]) (us := [(21, .int .i64 (((a0.V.toList.take a0.N.toNat).drop 0).length : Int)), (22, .int .i64 0)]) (by kernel_rfl) ?_
    obtain ⟨v51, hv52, hp53⟩ := bind_some' hp45
    have J58 : ∀ (t54 : ByteArray) (he60 : t54 = v51) (l59 : List Value) (w55 : World) (hF56 : Fr [] w0 w55) (hb57 : Bd b20 t54 w55), Runs Try.prog 7 [.code (c7 [1, 1, 1, 1, 1])] (fill [none, none, none, none, none, some (.pointer (some ⟨b20, 0, none⟩)), none, none, none, none, none, none, none, none, none, none, none, none, none, none, none, none, none, none, none, none, none, none, none, none, none] l59) w55 R := by
      intro t54 he60 l59 w55 hF56 hb57
      subst he60
      try dsimp only at hp53
      refine sx_run 2 (todo' := [.inRegion (opsOf (c7 [1, 1, 1, 1, 1, 0])) [0, 1, 2], .code (c7 [1, 1, 1, 1, 1, 1])]) (us := []) (by kernel_rfl) ?_
      refine r_call1 (c := (c7 [1, 1, 1, 1, 1, 0])) (i := 0) (d := (some 30)) (g := 32) (args := #[.pointer (some ⟨b20, 0, none⟩)]) (by kernel_rfl) (by kernel_rfl) (by kernel_rfl) (by kernel_rfl) (bd_string b20 t54 _ hb57) ?_
      rintro _ w61 ⟨rfl, hB62⟩
      refine ⟨.string t54, rfl, ?_⟩
      have hF63 : Fr [] w0 w61 := hF56.stepB hB62 hg24
      refine sx_run 3 (todo' := [.code (c7 [1, 1, 1, 1, 1, 1])]) (us := [(2, .string t54), (3, .int .i64 0)]) (by kernel_rfl) ?_
      refine runs_ret (fn := Try.f7) (v := .tuple #[.string t54, .int .i64 0]) Try.func7 (by kernel_rfl) ?_
      have hr64 := (Option.some.inj hp53)
      subst hr64
      exact hR _ _ ⟨rfl, hF63⟩
    have L77 : ∀ (t65 : Int) (t66 : ByteArray) (e72 : ByteArray), state_Code.l0 a0 t65 t66 = some e72 → e72 = v51 → ∀ (l71 : List Value) (w67 : World) (hF68 : Fr [] w0 w67) (hb69 : Bd b20 t66 w67) (hs70 : SlR (encI .i64) 1 w67 A46 ((a0.V.toList.take a0.N.toNat).drop 0)), Runs Try.prog 7 [.code (c7 [1, 1, 1, 1, 0, 1, 0, 0]), .inLoop (c7 [1, 1, 1, 1, 0, 1, 0, 0]), .inBlock 0, .code (c7 [1, 1, 1, 1, 1])] (fill [none, none, none, none, none, some (.pointer (some ⟨b20, 0, none⟩)), none, none, none, none, none, none, none, none, none, none, none, none, none, none, some (.slice A46 ((a0.V.toList.take a0.N.toNat).drop 0).length c47), some (.int .i64 (((a0.V.toList.take a0.N.toNat).drop 0).length : Int)), some (.int .i64 t65), none, none, none, none, none, none, none, none] l71) w67 R := by
      refine state_Code.l0.partial_correctness a0 (fun t65 t66 e72 => e72 = v51 → ∀ (l71 : List Value) (w67 : World) (hF68 : Fr [] w0 w67) (hb69 : Bd b20 t66 w67) (hs70 : SlR (encI .i64) 1 w67 A46 ((a0.V.toList.take a0.N.toNat).drop 0)), Runs Try.prog 7 [.code (c7 [1, 1, 1, 1, 0, 1, 0, 0]), .inLoop (c7 [1, 1, 1, 1, 0, 1, 0, 0]), .inBlock 0, .code (c7 [1, 1, 1, 1, 1])] (fill [none, none, none, none, none, some (.pointer (some ⟨b20, 0, none⟩)), none, none, none, none, none, none, none, none, none, none, none, none, none, none, some (.slice A46 ((a0.V.toList.take a0.N.toNat).drop 0).length c47), some (.int .i64 (((a0.V.toList.take a0.N.toNat).drop 0).length : Int)), some (.int .i64 t65), none, none, none, none, none, none, none, none] l71) w67 R) ?_
      intro rec76 ih75 t65 t66 e72 hb74 he73 l71 w67 hF68 hb69 hs70
      refine sx_split 3 (todo' := [.inRegion (opsOf (c7 [1, 1, 1, 1, 0, 1, 0, 0, 0])) [], .code (c7 [1, 1, 1, 1, 0, 1, 0, 0, 1]), .inLoop (c7 [1, 1, 1, 1, 0, 1, 0, 0]), .inBlock 0, .code (c7 [1, 1, 1, 1, 1])]) (us := []) (d := 23) (t := (decide (t65 < (((a0.V.toList.take a0.N.toNat).drop 0).length : Int)))) (by kernel_rfl) (fun h78 => ?_) (fun h79 => ?_)
      · skip
        have hp80 := ite_t hb74 h78
        refine sx_run 8 (todo' := [.inRegion (opsOf (c7 [1, 1, 1, 1, 0, 1, 0, 0, 1, 1, 0, 0, 0])) [0, 1, 2], .code (c7 [1, 1, 1, 1, 0, 1, 0, 0, 1, 1, 0, 0, 1]), .inBlock 1, .code (c7 [1, 1, 1, 1, 0, 1, 0, 0, 1, 1, 1]), .inLoop (c7 [1, 1, 1, 1, 0, 1, 0, 0]), .inBlock 0, .code (c7 [1, 1, 1, 1, 1])]) (us := []) (by kernel_rfl) ?_
        obtain ⟨g81, hp82⟩ := ite_some hp80
        obtain ⟨a83, hA84, hc85⟩ := hs70.at_ g81.1 g81.2
        refine r_indexAddr (c := (c7 [1, 1, 1, 1, 0, 1, 0, 0, 1, 1, 0, 0, 0])) (i := 0) (ty := 0) (d := (some 24)) (t := 64) (e := 2) (n := ((a0.V.toList.take a0.N.toNat).drop 0).length) (cp := c47) (sz := 1) (kk := .i64) (x := (.tmp 20)) (y := (.tmp 22)) (a := a83) (j := t65) (by kernel_rfl) (by kernel_rfl) (slv (by kernel_rfl) hA84) (by kernel_rfl) (by kernel_rfl) (by kernel_rfl) g81.1 g81.2 ?_
        refine r_load (c := (c7 [1, 1, 1, 1, 0, 1, 0, 0, 1, 1, 0, 0, 0])) (i := 1) (ty := 2) (d := (some 25)) (t := 2) (x := (.tmp 24)) (p := (a83.add (t65.toNat * 1))) (v := .int .i64 (gt ((a0.V.toList.take a0.N.toNat).drop 0) t65)) (by kernel_rfl) (by kernel_rfl) (by kernel_rfl) (loads_head hc85 (by kernel_rfl) (by kernel_rfl)) ?_
        refine sx_run 4 (todo' := [.inRegion (opsOf (c7 [1, 1, 1, 1, 0, 1, 0, 0, 1, 1, 0, 0, 1])) [1, 2], .inBlock 1, .code (c7 [1, 1, 1, 1, 0, 1, 0, 0, 1, 1, 1]), .inLoop (c7 [1, 1, 1, 1, 0, 1, 0, 0]), .inBlock 0, .code (c7 [1, 1, 1, 1, 1])]) (us := [(7, .int .i64 (gt ((a0.V.toList.take a0.N.toNat).drop 0) t65)), (26, .int .i64 (gt ((a0.V.toList.take a0.N.toNat).drop 0) t65))]) (by kernel_rfl) ?_
        obtain ⟨u86, hu87, hp88⟩ := bind_some' hp82
        refine r_call1 (c := (c7 [1, 1, 1, 1, 0, 1, 0, 0, 1, 1, 0, 0, 1])) (i := 1) (d := (some 27)) (g := 31) (args := #[.int .i64 (gt ((a0.V.toList.take a0.N.toNat).drop 0) t65)]) (by kernel_rfl) (by kernel_rfl) (by kernel_rfl) (by kernel_rfl) (word_Put.ok (gt ((a0.V.toList.take a0.N.toNat).drop 0) t65) _ _ hu87) ?_
        rintro _ w89 ⟨rfl, hf90⟩
        refine ⟨.string u86, rfl, ?_⟩
        have hF91 : Fr [] w0 w89 := hF68.step0 hf90
        have hb92 := hb69.below hf90
        have hs93 := hs70.fr0 hf90
        obtain ⟨g94, hp95⟩ := ite_some hp88
        refine r_call1 (c := (c7 [1, 1, 1, 1, 0, 1, 0, 0, 1, 1, 0, 0, 1])) (i := 2) (d := (some 28)) (g := 30) (args := #[.pointer (some ⟨b20, 0, none⟩), .string u86]) (by kernel_rfl) (by kernel_rfl) (by kernel_rfl) (by kernel_rfl) (bd_write b20 t66 u86 _ hb92 g94) ?_
        rintro _ w96 ⟨rfl, hb97, hB98⟩
        refine ⟨.tuple #[.int .i64 (u86.size : Int), .nilIface], rfl, ?_⟩
        have hF99 : Fr [] w0 w96 := hF91.stepB hB98 hg24
        have hb100 := hs93.fr (Fr.of_below hB98) (fun a ha => by rw [hs49b a ha]; exact not_range hn26)
        refine sx_run 6 (todo' := [.inLoop (c7 [1, 1, 1, 1, 0, 1, 0, 0]), .inBlock 0, .code (c7 [1, 1, 1, 1, 1])]) (us := [(29, .int .i64 (IntKind.i64.wrap (t65 + 1))), (22, .int .i64 (IntKind.i64.wrap (t65 + 1)))]) (by kernel_rfl) ?_
        refine sx_run 1 (todo' := [.code (c7 [1, 1, 1, 1, 0, 1, 0, 0]), .inLoop (c7 [1, 1, 1, 1, 0, 1, 0, 0]), .inBlock 0, .code (c7 [1, 1, 1, 1, 1])]) (us := []) (by kernel_rfl) ?_
        refine Runs.fill (m := [none, none, none, none, none, some (.pointer (some ⟨b20, 0, none⟩)), none, none, none, none, none, none, none, none, none, none, none, none, none, none, some (.slice A46 ((a0.V.toList.take a0.N.toNat).drop 0).length c47), some (.int .i64 (((a0.V.toList.take a0.N.toNat).drop 0).length : Int)), some (.int .i64 (IntKind.i64.wrap (t65 + 1))), none, none, none, none, none, none, none, none]) (by kernel_rfl) ?_
        exact ih75 (IntKind.i64.wrap (t65 + 1)) (t66 ++ u86) _ hp95 he73 _ _ hF99 hb97 hb100
      · skip
        have hp101 := ite_f hb74 h79
        refine sx_run 4 (todo' := [.code (c7 [1, 1, 1, 1, 1])]) (us := []) (by kernel_rfl) ?_
        refine Runs.fill (m := [none, none, none, none, none, some (.pointer (some ⟨b20, 0, none⟩)), none, none, none, none, none, none, none, none, none, none, none, none, none, none, none, none, none, none, none, none, none, none, none, none, none]) (by kernel_rfl) ?_
        exact J58 t66 ((Option.some.inj hp101).trans he73) _ _ hF68 hb69
    refine Runs.fill (m := [none, none, none, none, none, some (.pointer (some ⟨b20, 0, none⟩)), none, none, none, none, none, none, none, none, none, none, none, none, none, none, some (.slice A46 ((a0.V.toList.take a0.N.toNat).drop 0).length c47), some (.int .i64 (((a0.V.toList.take a0.N.toNat).drop 0).length : Int)), some (.int .i64 0), none, none, none, none, none, none, none, none]) (by kernel_rfl) ?_
    exact L77 0 ((⟨#[]⟩ : ByteArray) ++ u29) _ hv52 rfl _ _ hF42 hb40 hs49

noncomputable def c8 (p : List Nat) : Code := sub (bodyOf Try.f8) p
def weirref10_Code.l0 (a0 : api_Final) (t37 : ByteArray) (t38 : Int) : Option ByteArray :=
  (if (decide (t38 < a0.N)) = true then (if 0 ≤ t38 ∧ t38 < 48 then (weirref04_Put.f (vget a0.V t38) >>= fun u54 => (if t37.size + u54.size ≤ 9223372036854775807 then (weirref10_Code.l0 a0 (t37 ++ u54) (IntKind.i64.wrap (t38 + 1))) else none)) else none) else some (t37))
 partial_fixpoint
def weirref10_Code.f (a0 : api_Final) : Option (ByteArray × Int) :=
  (weirref10_Check.f a0 >>= fun u8 => (if (u8 != 0) = true then some (((⟨#[]⟩ : ByteArray), 4)) else (weirref04_Put.f a0.N >>= fun u20 => (weirref10_Code.l0 a0 u20 0 >>= (fun t30 => some ((t30, 0)))))))
theorem weirref10_Code.ok (a0 : api_Final) (w0 : World) (r : ByteArray × Int) (hp0 : weirref10_Code.f a0 = some r) :
    Calls Try.prog 8 #[.agg (enc_api_Final a0).toArray] w0 (fun e w' => e = .returned (.tuple #[.string r.1, .int .i64 r.2]) ∧ Fr [] w0 w') := by
  refine calls_abs ?_; intro R hR
  unfold weirref10_Code.f at hp0
  have hF0 : Fr [] w0 w0 := Fr.refl _ _
  refine calls_of_runs (fn := Try.f8) (c := c8 []) Try.func8 (by kernel_rfl) (al := [.agg (enc_api_Final a0).toArray]) rfl (n := 25) rfl ?_
  refine sx_run 2 (todo' := [.inRegion (opsOf (c8 [0])) [0, 1, 2], .code (c8 [1])]) (us := []) (by kernel_rfl) ?_
  refine r_box (x := (.tmp 0)) (v := .agg (enc_api_Final a0).toArray) (c := (c8 [0])) (i := 0) (ty := 0) (d := (some 1)) (t := 24) (cs := enc_api_Final a0) (by kernel_rfl) (by kernel_rfl) (by kernel_rfl) (by kernel_rfl) ?_
  intro b1 w2 hn3
  have hg5 : w0.heap.size ≤ b1 := by rw [hn3.num]; exact hF0.size
  have hF7 : Fr [] w0 w2 := hF0.step0 hn3.fr
  have hb4 : Blk w2 b1 24 (enc_api_Final a0) := hn3.blk
  refine sx_run 6 (todo' := [.inRegion (opsOf (c8 [1, 0, 0])) [0, 1, 2], .code (c8 [1, 0, 1]), .code (c8 [1, 1])]) (us := [(2, .string (⟨#[]⟩ : ByteArray)), (3, .int .i64 0)]) (by kernel_rfl) ?_
  refine r_load (c := (c8 [1, 0, 0])) (i := 0) (ty := 24) (d := (some 6)) (t := 24) (x := (.tmp 1)) (p := ⟨b1, 0, none⟩) (v := .agg (enc_api_Final a0).toArray) (by kernel_rfl) (by kernel_rfl) (by kernel_rfl) (loads_agg hb4.cells (by kernel_rfl) (len_st (len_api_Final _) (by kernel_rfl))) ?_
  obtain ⟨u8, hu9, hp10⟩ := bind_some' hp0
  refine r_call1 (c := (c8 [1, 0, 0])) (i := 1) (d := (some 7)) (g := 20) (args := #[.agg (enc_api_Final a0).toArray]) (by kernel_rfl) (by kernel_rfl) (by kernel_rfl) (by kernel_rfl) (weirref10_Check.ok a0 _ _ hu9) ?_
  rintro _ w11 ⟨rfl, hf12⟩
  refine ⟨.int .i64 u8, rfl, ?_⟩
  have hF13 : Fr [] w0 w11 := hF7.step0 hf12
  have hb14 := hb4.fr0 hf12
  refine sx_split 1 (todo' := [.inRegion (opsOf (c8 [1, 0, 0])) [], .code (c8 [1, 0, 1]), .code (c8 [1, 1])]) (us := []) (d := 8) (t := (u8 != 0)) (by kernel_rfl) (fun h15 => ?_) (fun h16 => ?_)
  · skip
    have hp17 := ite_t hp10 h15
    refine sx_run 7 (todo' := [.code (c8 [1, 0, 1, 0, 1]), .code (c8 [1, 1])]) (us := [(2, .string (⟨#[]⟩ : ByteArray)), (3, .int .i64 4)]) (by kernel_rfl) ?_
    refine runs_ret (fn := Try.f8) (v := .tuple #[.string (⟨#[]⟩ : ByteArray), .int .i64 4]) Try.func8 (by kernel_rfl) ?_
    have hr18 := (Option.some.inj hp17)
    subst hr18
    exact hR _ _ ⟨rfl, hF13⟩
  · skip
    have hp19 := ite_f hp10 h16
    refine sx_run 6 (todo' := [.inRegion (opsOf (c8 [1, 1, 0])) [1, 2, 3], .code (c8 [1, 1, 1])]) (us := [(9, .pointer (some ((⟨b1, 0, none⟩ : Addr).add 0)))]) (by kernel_rfl) ?_
    refine r_load (c := (c8 [1, 1, 0])) (i := 1) (ty := 3) (d := (some 10)) (t := 3) (x := (.tmp 9)) (p := ((⟨b1, 0, none⟩ : Addr).add 0)) (v := .int .i64 a0.N) (by kernel_rfl) (by kernel_rfl) (by kernel_rfl) (loads_at hb14.cells (by kernel_rfl) (by kernel_rfl)) ?_
    obtain ⟨u20, hu21, hp22⟩ := bind_some' hp19
    refine r_call1 (c := (c8 [1, 1, 0])) (i := 2) (d := (some 11)) (g := 33) (args := #[.int .i64 a0.N]) (by kernel_rfl) (by kernel_rfl) (by kernel_rfl) (by kernel_rfl) (weirref04_Put.ok a0.N _ _ hu21) ?_
    rintro _ w23 ⟨rfl, hf24⟩
    refine ⟨.string u20, rfl, ?_⟩
    have hF25 : Fr [] w0 w23 := hF13.step0 hf24
    have hb26 := hb14.fr0 hf24
    refine sx_run 9 (todo' := [.code (c8 [1, 1, 1, 0, 1, 0, 0]), .inLoop (c8 [1, 1, 1, 0, 1, 0, 0]), .inBlock 0, .code (c8 [1, 1, 1, 1])]) (us := [(4, .string u20), (5, .int .i64 0)]) (by kernel_rfl) ?_
    obtain ⟨v27, hv28, hp29⟩ := bind_some' hp22
    have J33 : ∀ (t30 : ByteArray) (he35 : t30 = v27) (l34 : List Value) (w31 : World) (hF32 : Fr [] w0 w31), Runs Try.prog 8 [.code (c8 [1, 1, 1, 1])] (fill [none, none, none, none, some (.string t30), none, none, none, none, none, none, none, none, none, none, none, none, none, none, none, none, none, none, none, none, none] l34) w31 R := by
      intro t30 he35 l34 w31 hF32
      subst he35
      try dsimp only at hp29
      refine sx_run 6 (todo' := [.code (c8 [1, 1, 1, 1, 1])]) (us := [(25, .string t30), (2, .string t30), (3, .int .i64 0)]) (by kernel_rfl) ?_
      refine runs_ret (fn := Try.f8) (v := .tuple #[.string t30, .int .i64 0]) Try.func8 (by kernel_rfl) ?_
      have hr36 := (Option.some.inj hp29)
      subst hr36
      exact hR _ _ ⟨rfl, hF32⟩
    have L48 : ∀ (t37 : ByteArray) (t38 : Int) (e43 : ByteArray), weirref10_Code.l0 a0 t37 t38 = some e43 → e43 = v27 → ∀ (l42 : List Value) (w39 : World) (hF40 : Fr [] w0 w39) (hb41 : Blk w39 b1 24 (enc_api_Final a0)), Runs Try.prog 8 [.code (c8 [1, 1, 1, 0, 1, 0, 0]), .inLoop (c8 [1, 1, 1, 0, 1, 0, 0]), .inBlock 0, .code (c8 [1, 1, 1, 1])] (fill [none, some (.pointer (some ⟨b1, 0, none⟩)), none, none, some (.string t37), some (.int .i64 t38), none, none, none, none, none, none, none, none, none, none, none, none, none, none, none, none, none, none, none, none] l42) w39 R := by
      refine weirref10_Code.l0.partial_correctness a0 (fun t37 t38 e43 => e43 = v27 → ∀ (l42 : List Value) (w39 : World) (hF40 : Fr [] w0 w39) (hb41 : Blk w39 b1 24 (enc_api_Final a0)), Runs Try.prog 8 [.code (c8 [1, 1, 1, 0, 1, 0, 0]), .inLoop (c8 [1, 1, 1, 0, 1, 0, 0]), .inBlock 0, .code (c8 [1, 1, 1, 1])] (fill [none, some (.pointer (some ⟨b1, 0, none⟩)), none, none, some (.string t37), some (.int .i64 t38), none, none, none, none, none, none, none, none, none, none, none, none, none, none, none, none, none, none, none, none] l42) w39 R) ?_
      intro rec47 ih46 t37 t38 e43 hb45 he44 l42 w39 hF40 hb41
      refine sx_run 5 (todo' := [.inRegion (opsOf (c8 [1, 1, 1, 0, 1, 0, 0, 0, 0])) [2, 3], .code (c8 [1, 1, 1, 0, 1, 0, 0, 0, 1]), .code (c8 [1, 1, 1, 0, 1, 0, 0, 1]), .inLoop (c8 [1, 1, 1, 0, 1, 0, 0]), .inBlock 0, .code (c8 [1, 1, 1, 1])]) (us := [(12, .int .i64 t38), (13, .pointer (some ((⟨b1, 0, none⟩ : Addr).add 0)))]) (by kernel_rfl) ?_
      refine r_load (c := (c8 [1, 1, 1, 0, 1, 0, 0, 0, 0])) (i := 2) (ty := 3) (d := (some 14)) (t := 3) (x := (.tmp 13)) (p := ((⟨b1, 0, none⟩ : Addr).add 0)) (v := .int .i64 a0.N) (by kernel_rfl) (by kernel_rfl) (by kernel_rfl) (loads_at hb41.cells (by kernel_rfl) (by kernel_rfl)) ?_
      refine sx_split 1 (todo' := [.inRegion (opsOf (c8 [1, 1, 1, 0, 1, 0, 0, 0, 0])) [], .code (c8 [1, 1, 1, 0, 1, 0, 0, 0, 1]), .code (c8 [1, 1, 1, 0, 1, 0, 0, 1]), .inLoop (c8 [1, 1, 1, 0, 1, 0, 0]), .inBlock 0, .code (c8 [1, 1, 1, 1])]) (us := []) (d := 15) (t := (decide (t38 < a0.N))) (by kernel_rfl) (fun h49 => ?_) (fun h50 => ?_)
      · skip
        have hp51 := ite_t hb45 h49
        refine sx_run 9 (todo' := [.inRegion (opsOf (c8 [1, 1, 1, 0, 1, 0, 0, 1, 0, 0])) [3, 4, 5, 6, 7], .inBlock 1, .code (c8 [1, 1, 1, 0, 1, 0, 0, 1, 1]), .inLoop (c8 [1, 1, 1, 0, 1, 0, 0]), .inBlock 0, .code (c8 [1, 1, 1, 1])]) (us := [(18, .string t37), (19, .int .i64 t38), (20, .pointer (some ((⟨b1, 0, none⟩ : Addr).add 1)))]) (by kernel_rfl) ?_
        obtain ⟨g52, hp53⟩ := ite_some hp51
        refine r_indexArr (c := (c8 [1, 1, 1, 0, 1, 0, 0, 1, 0, 0])) (i := 3) (ty := 0) (d := (some 21)) (t := 22) (e := 2) (sz := 1) (kk := .i64) (x := (.tmp 20)) (y := (.tmp 19)) (a := ((⟨b1, 0, none⟩ : Addr).add 1)) (n := 48) (j := t38) (by kernel_rfl) (by kernel_rfl) (by kernel_rfl) (by kernel_rfl) (by kernel_rfl) (by kernel_rfl) g52.1 g52.2 ?_
        refine r_load (c := (c8 [1, 1, 1, 0, 1, 0, 0, 1, 0, 0])) (i := 4) (ty := 2) (d := (some 22)) (t := 2) (x := (.tmp 21)) (p := ((((⟨b1, 0, none⟩ : Addr).add 1) : Addr).add (t38.toNat * 1))) (v := .int .i64 (vget a0.V t38)) (by kernel_rfl) (by kernel_rfl) (by kernel_rfl) (loads_vget (sub_api_Final_V hb41.cells) (by kernel_rfl) g52.1 g52.2) ?_
        obtain ⟨u54, hu55, hp56⟩ := bind_some' hp53
        refine r_call1 (c := (c8 [1, 1, 1, 0, 1, 0, 0, 1, 0, 0])) (i := 5) (d := (some 23)) (g := 33) (args := #[.int .i64 (vget a0.V t38)]) (by kernel_rfl) (by kernel_rfl) (by kernel_rfl) (by kernel_rfl) (weirref04_Put.ok (vget a0.V t38) _ _ hu55) ?_
        rintro _ w57 ⟨rfl, hf58⟩
        refine ⟨.string u54, rfl, ?_⟩
        have hF59 : Fr [] w0 w57 := hF40.step0 hf58
        have hb60 := hb41.fr0 hf58
        obtain ⟨g61, hp62⟩ := ite_some hp56
        refine r_val (c := (c8 [1, 1, 1, 0, 1, 0, 0, 1, 0, 0])) (i := 6) (ty := 9) (d := (some 24)) (op := .binOp .add 9 (.tmp 18) (.tmp 23) 9) (v := .string (t37 ++ u54)) (by kernel_rfl) (by kernel_rfl) (fun o ho _ => x_concat (by kernel_rfl) (by kernel_rfl) g61 ho) ?_
        refine sx_run 8 (todo' := [.inLoop (c8 [1, 1, 1, 0, 1, 0, 0]), .inBlock 0, .code (c8 [1, 1, 1, 1])]) (us := [(4, .string (t37 ++ u54)), (16, .int .i64 t38), (17, .int .i64 (IntKind.i64.wrap (t38 + 1))), (5, .int .i64 (IntKind.i64.wrap (t38 + 1)))]) (by kernel_rfl) ?_
        refine sx_run 1 (todo' := [.code (c8 [1, 1, 1, 0, 1, 0, 0]), .inLoop (c8 [1, 1, 1, 0, 1, 0, 0]), .inBlock 0, .code (c8 [1, 1, 1, 1])]) (us := []) (by kernel_rfl) ?_
        refine Runs.fill (m := [none, some (.pointer (some ⟨b1, 0, none⟩)), none, none, some (.string (t37 ++ u54)), some (.int .i64 (IntKind.i64.wrap (t38 + 1))), none, none, none, none, none, none, none, none, none, none, none, none, none, none, none, none, none, none, none, none]) (by kernel_rfl) ?_
        exact ih46 (t37 ++ u54) (IntKind.i64.wrap (t38 + 1)) _ hp62 he44 _ _ hF59 hb60
      · skip
        have hp63 := ite_f hb45 h50
        refine sx_run 3 (todo' := [.code (c8 [1, 1, 1, 1])]) (us := []) (by kernel_rfl) ?_
        refine Runs.fill (m := [none, none, none, none, some (.string t37), none, none, none, none, none, none, none, none, none, none, none, none, none, none, none, none, none, none, none, none, none]) (by kernel_rfl) ?_
        exact J33 t37 ((Option.some.inj hp63).trans he44) _ _ hF40
    refine Runs.fill (m := [none, some (.pointer (some ⟨b1, 0, none⟩)), none, none, some (.string u20), some (.int .i64 0), none, none, none, none, none, none, none, none, none, none, none, none, none, none, none, none, none, none, none, none]) (by kernel_rfl) ?_
    exact L48 u20 0 _ hv28 rfl _ _ hF25 hb26

noncomputable def c9 (p : List Nat) : Code := sub (bodyOf Try.f9) p
def state_Decode.l0 (a0 : ByteArray) (u8 : Int × Int × Int) (t85 : Int) (t86 : Int) (t87 : api_Final) : Option (Sum (Int × api_Final) (api_Final × Int)) :=
  (if (decide (t86 < u8.1)) = true then (word_Take.f a0 t85 >>= fun u103 => (if (u103.2.2 != 0) = true then some (.inr (((⟨0, (Vector.replicate 48 0)⟩ : api_Final), 5))) else (if 0 ≤ t86 ∧ t86 < 48 then (state_Decode.l0 a0 u8 (IntKind.i64.wrap (t85 + u103.2.1)) (IntKind.i64.wrap (t86 + 1)) (⟨t87.N, (vset t87.V t86 u103.1)⟩ : api_Final)) else none))) else some (.inl (t85, t87)))
 partial_fixpoint
def state_Decode.f (a0 : ByteArray) : Option (api_Final × Int) :=
  (word_Take.f a0 0 >>= fun u8 => (if (u8.2.2 != 0) = true then some (((⟨0, (Vector.replicate 48 0)⟩ : api_Final), 5)) else (if (decide (u8.1 < 0)) = true then some (((⟨0, (Vector.replicate 48 0)⟩ : api_Final), 5)) else (if (decide (u8.1 > 48)) = true then some (((⟨0, (Vector.replicate 48 0)⟩ : api_Final), 5)) else (state_Decode.l0 a0 u8 u8.2.1 0 (⟨u8.1, (Vector.replicate 48 0)⟩ : api_Final) >>= (fun | .inl (t59, t60) => (if (t59 != (a0.size : Int)) = true then some (((⟨0, (Vector.replicate 48 0)⟩ : api_Final), 5)) else some ((t60, 0))) | .inr e => some e))))))
theorem state_Decode.ok (a0 : ByteArray) (w0 : World) (r : api_Final × Int) (hp0 : state_Decode.f a0 = some r) :
    Calls Try.prog 9 #[.string a0] w0 (fun e w' => e = .returned (.tuple #[.agg (enc_api_Final r.1).toArray, .int .i64 r.2]) ∧ Fr [] w0 w') := by
  refine calls_abs ?_; intro R hR
  unfold state_Decode.f at hp0
  have hF0 : Fr [] w0 w0 := Fr.refl _ _
  refine calls_of_runs (fn := Try.f9) (c := c9 []) Try.func9 (by kernel_rfl) (al := [.string a0]) rfl (n := 59) rfl ?_
  refine sx_run 2 (todo' := [.inRegion (opsOf (c9 [0])) [0, 1], .code (c9 [1])]) (us := []) (by kernel_rfl) ?_
  refine r_alloc (z := .agg (enc_api_Final (⟨0, (Vector.replicate 48 0)⟩ : api_Final)).toArray) (c := (c9 [0])) (i := 0) (ty := 0) (d := (some 2)) (t := 24) (cs := enc_api_Final (⟨0, (Vector.replicate 48 0)⟩ : api_Final)) (by kernel_rfl) (by kernel_rfl) (by kernel_rfl) (by kernel_rfl) ?_
  intro b1 w2 hn3
  have hg5 : w0.heap.size ≤ b1 := by rw [hn3.num]; exact hF0.size
  have hF7 : Fr [] w0 w2 := hF0.step0 hn3.fr
  have hb4 : Blk w2 b1 24 (enc_api_Final (⟨0, (Vector.replicate 48 0)⟩ : api_Final)) := hn3.blk
  refine sx_run 5 (todo' := [.inRegion (opsOf (c9 [1, 0])) [1, 2, 3, 4, 5, 6, 7, 8], .code (c9 [1, 1])]) (us := [(3, .int .i64 0), (13, .string a0)]) (by kernel_rfl) ?_
  obtain ⟨u8, hu9, hp10⟩ := bind_some' hp0
  refine r_call1 (c := (c9 [1, 0])) (i := 1) (d := (some 14)) (g := 34) (args := #[.string a0, .int .i64 0]) (by kernel_rfl) (by kernel_rfl) (by kernel_rfl) (by kernel_rfl) (word_Take.ok a0 0 _ _ hu9) ?_
  rintro _ w11 ⟨rfl, hf12⟩
  refine ⟨.tuple #[.int .i64 u8.1, .int .i64 u8.2.1, .int .i64 u8.2.2], rfl, ?_⟩
  have hF13 : Fr [] w0 w11 := hF7.step0 hf12
  have hb14 := hb4.fr0 hf12
  refine sx_split 13 (todo' := [.inRegion (opsOf (c9 [1, 1, 0, 0])) [2, 3, 4, 5, 6, 7, 8, 9], .code (c9 [1, 1, 0, 1]), .code (c9 [1, 1, 1])]) (us := [(12, .tuple #[.int .i64 u8.1, .int .i64 u8.2.1, .int .i64 u8.2.2]), (15, .int .i64 u8.1), (16, .int .i64 u8.2.1), (17, .int .i64 u8.2.2), (4, .int .i64 u8.1), (5, .int .i64 u8.2.1), (6, .int .i64 u8.2.2), (18, .int .i64 u8.2.2)]) (d := 19) (t := (u8.2.2 != 0)) (by kernel_rfl) (fun h15 => ?_) (fun h16 => ?_)
  · skip
    have hp17 := ite_t hp10 h15
    refine sx_run 13 (todo' := [.inRegion (opsOf (c9 [1, 1, 0, 1, 0, 0])) [1, 2], .code (c9 [1, 1, 0, 1, 0, 1]), .code (c9 [1, 1, 1])]) (us := [(20, .bool true), (21, undef), (22, undef), (23, .bool true), (24, .bool true), (25, undef), (26, undef), (27, .bool true), (28, .agg (enc_api_Final (⟨0, (Vector.replicate 48 0)⟩ : api_Final)).toArray)]) (by kernel_rfl) ?_
    refine r_store (c := (c9 [1, 1, 0, 1, 0, 0])) (i := 1) (ty := 0) (d := none) (t := 24) (x := (.tmp 2)) (y := (.tmp 28)) (v := .agg (enc_api_Final (⟨0, (Vector.replicate 48 0)⟩ : api_Final)).toArray) (o := 0) (vs := enc_api_Final (⟨0, (Vector.replicate 48 0)⟩ : api_Final)) (by kernel_rfl) (by kernel_rfl) (by kernel_rfl) (by kernel_rfl) hb14 (by kernel_rfl) (len_st (len_api_Final _) (by kernel_rfl)) (one_api_Final _) (by simp [len_api_Final]) ?_
    intro w18 hb19 hf20
    have hb19n : Blk w18 b1 24 (enc_api_Final (⟨0, (Vector.replicate 48 0)⟩ : api_Final)) := Blk.eq hb19 (over_all ((len_api_Final _).trans (len_api_Final _).symm))
    have hF21 : Fr [] w0 w18 := hF13.stepX hf20 (by simpa using hg5)
    refine sx_run 2 (todo' := [.code (c9 [1, 1, 0, 1, 0, 1]), .code (c9 [1, 1, 1])]) (us := [(3, .int .i64 5)]) (by kernel_rfl) ?_
    refine runs_ret (fn := Try.f9) (v := .tuple #[.agg (enc_api_Final (⟨0, (Vector.replicate 48 0)⟩ : api_Final)).toArray, .int .i64 5]) Try.func9 (resl_run (fn := Try.f9) (by kernel_rfl) (.cell (t := 2) (ty := 24) (by kernel_rfl) (loads_agg hb19n.cells (by kernel_rfl) (len_st (len_api_Final _) (by kernel_rfl))) (.tmp (t := 3) (by kernel_rfl) .nil))) ?_
    have hr22 := (Option.some.inj hp17)
    subst hr22
    exact hR _ _ ⟨rfl, hF21⟩
  · skip
    have hp23 := ite_f hp10 h16
    refine sx_split 3 (todo' := [.inRegion (opsOf (c9 [1, 1, 0, 0])) [5, 6, 7, 8, 9], .code (c9 [1, 1, 0, 1]), .code (c9 [1, 1, 1])]) (us := [(20, .bool false), (21, .int .i64 u8.1)]) (d := 22) (t := (decide (u8.1 < 0))) (by kernel_rfl) (fun h24 => ?_) (fun h25 => ?_)
    · skip
      have hp26 := ite_t hp23 h24
      refine sx_run 10 (todo' := [.inRegion (opsOf (c9 [1, 1, 0, 1, 0, 0])) [1, 2], .code (c9 [1, 1, 0, 1, 0, 1]), .code (c9 [1, 1, 1])]) (us := [(23, .bool true), (24, .bool true), (25, undef), (26, undef), (27, .bool true), (28, .agg (enc_api_Final (⟨0, (Vector.replicate 48 0)⟩ : api_Final)).toArray)]) (by kernel_rfl) ?_
      refine r_store (c := (c9 [1, 1, 0, 1, 0, 0])) (i := 1) (ty := 0) (d := none) (t := 24) (x := (.tmp 2)) (y := (.tmp 28)) (v := .agg (enc_api_Final (⟨0, (Vector.replicate 48 0)⟩ : api_Final)).toArray) (o := 0) (vs := enc_api_Final (⟨0, (Vector.replicate 48 0)⟩ : api_Final)) (by kernel_rfl) (by kernel_rfl) (by kernel_rfl) (by kernel_rfl) hb14 (by kernel_rfl) (len_st (len_api_Final _) (by kernel_rfl)) (one_api_Final _) (by simp [len_api_Final]) ?_
      intro w27 hb28 hf29
      have hb28n : Blk w27 b1 24 (enc_api_Final (⟨0, (Vector.replicate 48 0)⟩ : api_Final)) := Blk.eq hb28 (over_all ((len_api_Final _).trans (len_api_Final _).symm))
      have hF30 : Fr [] w0 w27 := hF13.stepX hf29 (by simpa using hg5)
      refine sx_run 2 (todo' := [.code (c9 [1, 1, 0, 1, 0, 1]), .code (c9 [1, 1, 1])]) (us := [(3, .int .i64 5)]) (by kernel_rfl) ?_
      refine runs_ret (fn := Try.f9) (v := .tuple #[.agg (enc_api_Final (⟨0, (Vector.replicate 48 0)⟩ : api_Final)).toArray, .int .i64 5]) Try.func9 (resl_run (fn := Try.f9) (by kernel_rfl) (.cell (t := 2) (ty := 24) (by kernel_rfl) (loads_agg hb28n.cells (by kernel_rfl) (len_st (len_api_Final _) (by kernel_rfl))) (.tmp (t := 3) (by kernel_rfl) .nil))) ?_
      have hr31 := (Option.some.inj hp26)
      subst hr31
      exact hR _ _ ⟨rfl, hF30⟩
    · skip
      have hp32 := ite_f hp23 h25
      refine sx_split 4 (todo' := [.inRegion (opsOf (c9 [1, 1, 0, 0])) [9], .code (c9 [1, 1, 0, 1]), .code (c9 [1, 1, 1])]) (us := [(23, .bool false), (24, .bool false), (25, .int .i64 u8.1)]) (d := 26) (t := (decide (u8.1 > 48))) (by kernel_rfl) (fun h33 => ?_) (fun h34 => ?_)
      · skip
        have hp35 := ite_t hp32 h33
        refine sx_run 6 (todo' := [.inRegion (opsOf (c9 [1, 1, 0, 1, 0, 0])) [1, 2], .code (c9 [1, 1, 0, 1, 0, 1]), .code (c9 [1, 1, 1])]) (us := [(27, .bool true), (28, .agg (enc_api_Final (⟨0, (Vector.replicate 48 0)⟩ : api_Final)).toArray)]) (by kernel_rfl) ?_
        refine r_store (c := (c9 [1, 1, 0, 1, 0, 0])) (i := 1) (ty := 0) (d := none) (t := 24) (x := (.tmp 2)) (y := (.tmp 28)) (v := .agg (enc_api_Final (⟨0, (Vector.replicate 48 0)⟩ : api_Final)).toArray) (o := 0) (vs := enc_api_Final (⟨0, (Vector.replicate 48 0)⟩ : api_Final)) (by kernel_rfl) (by kernel_rfl) (by kernel_rfl) (by kernel_rfl) hb14 (by kernel_rfl) (len_st (len_api_Final _) (by kernel_rfl)) (one_api_Final _) (by simp [len_api_Final]) ?_
        intro w36 hb37 hf38
        have hb37n : Blk w36 b1 24 (enc_api_Final (⟨0, (Vector.replicate 48 0)⟩ : api_Final)) := Blk.eq hb37 (over_all ((len_api_Final _).trans (len_api_Final _).symm))
        have hF39 : Fr [] w0 w36 := hF13.stepX hf38 (by simpa using hg5)
        refine sx_run 2 (todo' := [.code (c9 [1, 1, 0, 1, 0, 1]), .code (c9 [1, 1, 1])]) (us := [(3, .int .i64 5)]) (by kernel_rfl) ?_
        refine runs_ret (fn := Try.f9) (v := .tuple #[.agg (enc_api_Final (⟨0, (Vector.replicate 48 0)⟩ : api_Final)).toArray, .int .i64 5]) Try.func9 (resl_run (fn := Try.f9) (by kernel_rfl) (.cell (t := 2) (ty := 24) (by kernel_rfl) (loads_agg hb37n.cells (by kernel_rfl) (len_st (len_api_Final _) (by kernel_rfl))) (.tmp (t := 3) (by kernel_rfl) .nil))) ?_
        have hr40 := (Option.some.inj hp35)
        subst hr40
        exact hR _ _ ⟨rfl, hF39⟩
      · skip
        have hp41 := ite_f hp32 h34
        refine sx_run 8 (todo' := [.inRegion (opsOf (c9 [1, 1, 1, 0])) [2, 3], .code (c9 [1, 1, 1, 1])]) (us := [(27, .bool false), (29, .int .i64 u8.1), (30, .agg (enc_api_Final (⟨u8.1, (Vector.replicate 48 0)⟩ : api_Final)).toArray)]) (by kernel_rfl) ?_
        refine r_alloc (z := .agg (enc_api_Final (⟨0, (Vector.replicate 48 0)⟩ : api_Final)).toArray) (c := (c9 [1, 1, 1, 0])) (i := 2) (ty := 0) (d := (some 7)) (t := 24) (cs := enc_api_Final (⟨0, (Vector.replicate 48 0)⟩ : api_Final)) (by kernel_rfl) (by kernel_rfl) (by kernel_rfl) (by kernel_rfl) ?_
        intro b42 w43 hn44
        have hg46 : w0.heap.size ≤ b42 := by rw [hn44.num]; exact hF13.size
        have hn48 : b1 ≠ b42 := hn44.ne hb14
        have hF49 : Fr [] w0 w43 := hF13.step0 hn44.fr
        have hb50 := hb14.fr0 hn44.fr
        have hb45 : Blk w43 b42 24 (enc_api_Final (⟨0, (Vector.replicate 48 0)⟩ : api_Final)) := hn44.blk
        refine r_store (c := (c9 [1, 1, 1, 0])) (i := 3) (ty := 0) (d := none) (t := 24) (x := (.tmp 7)) (y := (.tmp 30)) (v := .agg (enc_api_Final (⟨u8.1, (Vector.replicate 48 0)⟩ : api_Final)).toArray) (o := 0) (vs := enc_api_Final (⟨u8.1, (Vector.replicate 48 0)⟩ : api_Final)) (by kernel_rfl) (by kernel_rfl) (by kernel_rfl) (by kernel_rfl) hb45 (by kernel_rfl) (len_st (len_api_Final _) (by kernel_rfl)) (one_api_Final _) (by simp [len_api_Final]) ?_
        intro w51 hb52 hf53
        have hb52n : Blk w51 b42 24 (enc_api_Final (⟨u8.1, (Vector.replicate 48 0)⟩ : api_Final)) := Blk.eq hb52 (over_all ((len_api_Final _).trans (len_api_Final _).symm))
        have hF54 : Fr [] w0 w51 := hF49.stepX hf53 (by simpa using hg46)
        have hb55 := hb50.fr hf53 (by simp only [List.mem_singleton]; first | exact hn48 | exact Ne.symm hn48)
        refine sx_run 5 (todo' := [.inRegion (opsOf (c9 [1, 1, 1, 1, 0, 0])) [1, 2], .code (c9 [1, 1, 1, 1, 0, 1]), .code (c9 [1, 1, 1, 1, 1])]) (us := [(31, .pointer (some ((⟨b42, 0, none⟩ : Addr).add 0)))]) (by kernel_rfl) ?_
        refine r_load (c := (c9 [1, 1, 1, 1, 0, 0])) (i := 1) (ty := 3) (d := (some 32)) (t := 3) (x := (.tmp 31)) (p := ((⟨b42, 0, none⟩ : Addr).add 0)) (v := .int .i64 u8.1) (by kernel_rfl) (by kernel_rfl) (by kernel_rfl) (loads_at hb52n.cells (by kernel_rfl) (by kernel_rfl)) ?_
        refine sx_run 4 (todo' := [.code (c9 [1, 1, 1, 1, 0, 1, 0, 0]), .inLoop (c9 [1, 1, 1, 1, 0, 1, 0, 0]), .inBlock 0, .code (c9 [1, 1, 1, 1, 1])]) (us := [(33, .int .i64 0)]) (by kernel_rfl) ?_
        obtain ⟨v56, hv57, hp58⟩ := bind_some' hp41
        have hq65 : ∀ x, Sum.inr x = v56 → x = r := by intro x hx; subst hx; simpa using hp58
        have J66 : ∀ (t59 : Int) (t60 : api_Final) (he68 : Sum.inl (t59, t60) = v56) (l67 : List Value) (w61 : World) (hF62 : Fr [] w0 w61) (hb63 : Blk w61 b1 24 (enc_api_Final (⟨0, (Vector.replicate 48 0)⟩ : api_Final))) (hb64 : Blk w61 b42 24 (enc_api_Final t60)), Runs Try.prog 9 [.code (c9 [1, 1, 1, 1, 1])] (fill [some (.string a0), none, some (.pointer (some ⟨b1, 0, none⟩)), none, none, some (.int .i64 t59), none, some (.pointer (some ⟨b42, 0, none⟩)), none, none, none, none, none, none, none, none, none, none, none, none, none, none, none, none, none, none, none, none, none, none, none, none, none, none, none, none, none, none, none, none, none, none, none, none, none, none, none, none, none, none, none, none, none, none, none, none, none, none, none, none] l67) w61 R := by
          intro t59 t60 he68 l67 w61 hF62 hb63 hb64
          subst he68
          try dsimp only at hp58
          refine sx_split 7 (todo' := [.inRegion (opsOf (c9 [1, 1, 1, 1, 1, 0, 0])) [], .code (c9 [1, 1, 1, 1, 1, 0, 1]), .code (c9 [1, 1, 1, 1, 1, 1])]) (us := [(54, .int .i64 t59), (55, .string a0), (56, .int .i64 (a0.size : Int))]) (d := 57) (t := (t59 != (a0.size : Int))) (by kernel_rfl) (fun h69 => ?_) (fun h70 => ?_)
          · skip
            have hp71 := ite_t hp58 h69
            refine sx_run 5 (todo' := [.inRegion (opsOf (c9 [1, 1, 1, 1, 1, 0, 1, 0, 0])) [1, 2], .code (c9 [1, 1, 1, 1, 1, 0, 1, 0, 1]), .code (c9 [1, 1, 1, 1, 1, 1])]) (us := [(58, .agg (enc_api_Final (⟨0, (Vector.replicate 48 0)⟩ : api_Final)).toArray)]) (by kernel_rfl) ?_
            refine r_store (c := (c9 [1, 1, 1, 1, 1, 0, 1, 0, 0])) (i := 1) (ty := 0) (d := none) (t := 24) (x := (.tmp 2)) (y := (.tmp 58)) (v := .agg (enc_api_Final (⟨0, (Vector.replicate 48 0)⟩ : api_Final)).toArray) (o := 0) (vs := enc_api_Final (⟨0, (Vector.replicate 48 0)⟩ : api_Final)) (by kernel_rfl) (by kernel_rfl) (by kernel_rfl) (by kernel_rfl) hb63 (by kernel_rfl) (len_st (len_api_Final _) (by kernel_rfl)) (one_api_Final _) (by simp [len_api_Final]) ?_
            intro w72 hb73 hf74
            have hb73n : Blk w72 b1 24 (enc_api_Final (⟨0, (Vector.replicate 48 0)⟩ : api_Final)) := Blk.eq hb73 (over_all ((len_api_Final _).trans (len_api_Final _).symm))
            have hF75 : Fr [] w0 w72 := hF62.stepX hf74 (by simpa using hg5)
            have hb76 := hb64.fr hf74 (by simp only [List.mem_singleton]; first | exact hn48 | exact Ne.symm hn48)
            refine sx_run 2 (todo' := [.code (c9 [1, 1, 1, 1, 1, 0, 1, 0, 1]), .code (c9 [1, 1, 1, 1, 1, 1])]) (us := [(3, .int .i64 5)]) (by kernel_rfl) ?_
            refine runs_ret (fn := Try.f9) (v := .tuple #[.agg (enc_api_Final (⟨0, (Vector.replicate 48 0)⟩ : api_Final)).toArray, .int .i64 5]) Try.func9 (resl_run (fn := Try.f9) (by kernel_rfl) (.cell (t := 2) (ty := 24) (by kernel_rfl) (loads_agg hb73n.cells (by kernel_rfl) (len_st (len_api_Final _) (by kernel_rfl))) (.tmp (t := 3) (by kernel_rfl) .nil))) ?_
            have hr77 := (Option.some.inj hp71)
            subst hr77
            exact hR _ _ ⟨rfl, hF75⟩
          · skip
            have hp78 := ite_f hp58 h70
            refine sx_run 5 (todo' := [.inRegion (opsOf (c9 [1, 1, 1, 1, 1, 1, 0])) [0, 1, 2], .code (c9 [1, 1, 1, 1, 1, 1, 1])]) (us := []) (by kernel_rfl) ?_
            refine r_load (c := (c9 [1, 1, 1, 1, 1, 1, 0])) (i := 0) (ty := 24) (d := (some 59)) (t := 24) (x := (.tmp 7)) (p := ⟨b42, 0, none⟩) (v := .agg (enc_api_Final t60).toArray) (by kernel_rfl) (by kernel_rfl) (by kernel_rfl) (loads_agg hb64.cells (by kernel_rfl) (len_st (len_api_Final _) (by kernel_rfl))) ?_
            refine r_store (c := (c9 [1, 1, 1, 1, 1, 1, 0])) (i := 1) (ty := 0) (d := none) (t := 24) (x := (.tmp 2)) (y := (.tmp 59)) (v := .agg (enc_api_Final t60).toArray) (o := 0) (vs := enc_api_Final t60) (by kernel_rfl) (by kernel_rfl) (by kernel_rfl) (by kernel_rfl) hb63 (by kernel_rfl) (len_st (len_api_Final _) (by kernel_rfl)) (one_api_Final _) (by simp [len_api_Final]) ?_
            intro w79 hb80 hf81
            have hb80n : Blk w79 b1 24 (enc_api_Final t60) := Blk.eq hb80 (over_all ((len_api_Final _).trans (len_api_Final _).symm))
            have hF82 : Fr [] w0 w79 := hF62.stepX hf81 (by simpa using hg5)
            have hb83 := hb64.fr hf81 (by simp only [List.mem_singleton]; first | exact hn48 | exact Ne.symm hn48)
            refine sx_run 2 (todo' := [.code (c9 [1, 1, 1, 1, 1, 1, 1])]) (us := [(3, .int .i64 0)]) (by kernel_rfl) ?_
            refine runs_ret (fn := Try.f9) (v := .tuple #[.agg (enc_api_Final t60).toArray, .int .i64 0]) Try.func9 (resl_run (fn := Try.f9) (by kernel_rfl) (.cell (t := 2) (ty := 24) (by kernel_rfl) (loads_agg hb80n.cells (by kernel_rfl) (len_st (len_api_Final _) (by kernel_rfl))) (.tmp (t := 3) (by kernel_rfl) .nil))) ?_
            have hr84 := (Option.some.inj hp78)
            subst hr84
            exact hR _ _ ⟨rfl, hF82⟩
        have L98 : ∀ (t85 : Int) (t86 : Int) (t87 : api_Final) (e93 : Sum (Int × api_Final) (api_Final × Int)), state_Decode.l0 a0 u8 t85 t86 t87 = some e93 → e93 = v56 → ∀ (l92 : List Value) (w88 : World) (hF89 : Fr [] w0 w88) (hb90 : Blk w88 b1 24 (enc_api_Final (⟨0, (Vector.replicate 48 0)⟩ : api_Final))) (hb91 : Blk w88 b42 24 (enc_api_Final t87)), Runs Try.prog 9 [.code (c9 [1, 1, 1, 1, 0, 1, 0, 0]), .inLoop (c9 [1, 1, 1, 1, 0, 1, 0, 0]), .inBlock 0, .code (c9 [1, 1, 1, 1, 1])] (fill [some (.string a0), none, some (.pointer (some ⟨b1, 0, none⟩)), none, none, some (.int .i64 t85), none, some (.pointer (some ⟨b42, 0, none⟩)), none, none, none, none, none, none, none, none, none, none, none, none, none, none, none, none, none, none, none, none, none, none, none, none, some (.int .i64 u8.1), some (.int .i64 t86), none, none, none, none, none, none, none, none, none, none, none, none, none, none, none, none, none, none, none, none, none, none, none, none, none, none] l92) w88 R := by
          refine state_Decode.l0.partial_correctness a0 u8 (fun t85 t86 t87 e93 => e93 = v56 → ∀ (l92 : List Value) (w88 : World) (hF89 : Fr [] w0 w88) (hb90 : Blk w88 b1 24 (enc_api_Final (⟨0, (Vector.replicate 48 0)⟩ : api_Final))) (hb91 : Blk w88 b42 24 (enc_api_Final t87)), Runs Try.prog 9 [.code (c9 [1, 1, 1, 1, 0, 1, 0, 0]), .inLoop (c9 [1, 1, 1, 1, 0, 1, 0, 0]), .inBlock 0, .code (c9 [1, 1, 1, 1, 1])] (fill [some (.string a0), none, some (.pointer (some ⟨b1, 0, none⟩)), none, none, some (.int .i64 t85), none, some (.pointer (some ⟨b42, 0, none⟩)), none, none, none, none, none, none, none, none, none, none, none, none, none, none, none, none, none, none, none, none, none, none, none, none, some (.int .i64 u8.1), some (.int .i64 t86), none, none, none, none, none, none, none, none, none, none, none, none, none, none, none, none, none, none, none, none, none, none, none, none, none, none] l92) w88 R) ?_
          intro rec97 ih96 t85 t86 t87 e93 hb95 he94 l92 w88 hF89 hb90 hb91
          have hq99 : ∀ x, Sum.inr x = e93 → x = r := fun x hx => hq65 x (hx.trans he94)
          refine sx_split 3 (todo' := [.inRegion (opsOf (c9 [1, 1, 1, 1, 0, 1, 0, 0, 0])) [], .code (c9 [1, 1, 1, 1, 0, 1, 0, 0, 1]), .inLoop (c9 [1, 1, 1, 1, 0, 1, 0, 0]), .inBlock 0, .code (c9 [1, 1, 1, 1, 1])]) (us := []) (d := 34) (t := (decide (t86 < u8.1))) (by kernel_rfl) (fun h100 => ?_) (fun h101 => ?_)
          · skip
            have hp102 := ite_t hb95 h100
            refine sx_run 15 (todo' := [.inRegion (opsOf (c9 [1, 1, 1, 1, 0, 1, 0, 0, 1, 1, 0, 0, 1, 0])) [2, 3, 4, 5, 6, 7, 8, 9], .code (c9 [1, 1, 1, 1, 0, 1, 0, 0, 1, 1, 0, 0, 1, 1]), .inBlock 1, .code (c9 [1, 1, 1, 1, 0, 1, 0, 0, 1, 1, 1]), .inLoop (c9 [1, 1, 1, 1, 0, 1, 0, 0]), .inBlock 0, .code (c9 [1, 1, 1, 1, 1])]) (us := [(35, .int .i64 t86), (8, .int .i64 t86), (37, .string a0), (38, .int .i64 t85)]) (by kernel_rfl) ?_
            obtain ⟨u103, hu104, hp105⟩ := bind_some' hp102
            refine r_call1 (c := (c9 [1, 1, 1, 1, 0, 1, 0, 0, 1, 1, 0, 0, 1, 0])) (i := 2) (d := (some 39)) (g := 34) (args := #[.string a0, .int .i64 t85]) (by kernel_rfl) (by kernel_rfl) (by kernel_rfl) (by kernel_rfl) (word_Take.ok a0 t85 _ _ hu104) ?_
            rintro _ w106 ⟨rfl, hf107⟩
            refine ⟨.tuple #[.int .i64 u103.1, .int .i64 u103.2.1, .int .i64 u103.2.2], rfl, ?_⟩
            have hF108 : Fr [] w0 w106 := hF89.step0 hf107
            have hb109 := hb90.fr0 hf107
            have hb110 := hb91.fr0 hf107
            refine sx_split 13 (todo' := [.inRegion (opsOf (c9 [1, 1, 1, 1, 0, 1, 0, 0, 1, 1, 0, 0, 1, 1, 0, 0])) [], .code (c9 [1, 1, 1, 1, 0, 1, 0, 0, 1, 1, 0, 0, 1, 1, 0, 1]), .code (c9 [1, 1, 1, 1, 0, 1, 0, 0, 1, 1, 0, 0, 1, 1, 1]), .inBlock 1, .code (c9 [1, 1, 1, 1, 0, 1, 0, 0, 1, 1, 1]), .inLoop (c9 [1, 1, 1, 1, 0, 1, 0, 0]), .inBlock 0, .code (c9 [1, 1, 1, 1, 1])]) (us := [(36, .tuple #[.int .i64 u103.1, .int .i64 u103.2.1, .int .i64 u103.2.2]), (40, .int .i64 u103.1), (41, .int .i64 u103.2.1), (42, .int .i64 u103.2.2), (9, .int .i64 u103.1), (10, .int .i64 u103.2.1), (11, .int .i64 u103.2.2), (43, .int .i64 u103.2.2)]) (d := 44) (t := (u103.2.2 != 0)) (by kernel_rfl) (fun h111 => ?_) (fun h112 => ?_)
            · skip
              have hp113 := ite_t hp105 h111
              refine sx_run 5 (todo' := [.inRegion (opsOf (c9 [1, 1, 1, 1, 0, 1, 0, 0, 1, 1, 0, 0, 1, 1, 0, 1, 0, 0])) [1, 2], .code (c9 [1, 1, 1, 1, 0, 1, 0, 0, 1, 1, 0, 0, 1, 1, 0, 1, 0, 1]), .code (c9 [1, 1, 1, 1, 0, 1, 0, 0, 1, 1, 0, 0, 1, 1, 1]), .inBlock 1, .code (c9 [1, 1, 1, 1, 0, 1, 0, 0, 1, 1, 1]), .inLoop (c9 [1, 1, 1, 1, 0, 1, 0, 0]), .inBlock 0, .code (c9 [1, 1, 1, 1, 1])]) (us := [(45, .agg (enc_api_Final (⟨0, (Vector.replicate 48 0)⟩ : api_Final)).toArray)]) (by kernel_rfl) ?_
              refine r_store (c := (c9 [1, 1, 1, 1, 0, 1, 0, 0, 1, 1, 0, 0, 1, 1, 0, 1, 0, 0])) (i := 1) (ty := 0) (d := none) (t := 24) (x := (.tmp 2)) (y := (.tmp 45)) (v := .agg (enc_api_Final (⟨0, (Vector.replicate 48 0)⟩ : api_Final)).toArray) (o := 0) (vs := enc_api_Final (⟨0, (Vector.replicate 48 0)⟩ : api_Final)) (by kernel_rfl) (by kernel_rfl) (by kernel_rfl) (by kernel_rfl) hb109 (by kernel_rfl) (len_st (len_api_Final _) (by kernel_rfl)) (one_api_Final _) (by simp [len_api_Final]) ?_
              intro w114 hb115 hf116
              have hb115n : Blk w114 b1 24 (enc_api_Final (⟨0, (Vector.replicate 48 0)⟩ : api_Final)) := Blk.eq hb115 (over_all ((len_api_Final _).trans (len_api_Final _).symm))
              have hF117 : Fr [] w0 w114 := hF108.stepX hf116 (by simpa using hg5)
              have hb118 := hb110.fr hf116 (by simp only [List.mem_singleton]; first | exact hn48 | exact Ne.symm hn48)
              refine sx_run 2 (todo' := [.code (c9 [1, 1, 1, 1, 0, 1, 0, 0, 1, 1, 0, 0, 1, 1, 0, 1, 0, 1]), .code (c9 [1, 1, 1, 1, 0, 1, 0, 0, 1, 1, 0, 0, 1, 1, 1]), .inBlock 1, .code (c9 [1, 1, 1, 1, 0, 1, 0, 0, 1, 1, 1]), .inLoop (c9 [1, 1, 1, 1, 0, 1, 0, 0]), .inBlock 0, .code (c9 [1, 1, 1, 1, 1])]) (us := [(3, .int .i64 5)]) (by kernel_rfl) ?_
              refine runs_ret (fn := Try.f9) (v := .tuple #[.agg (enc_api_Final (⟨0, (Vector.replicate 48 0)⟩ : api_Final)).toArray, .int .i64 5]) Try.func9 (resl_run (fn := Try.f9) (by kernel_rfl) (.cell (t := 2) (ty := 24) (by kernel_rfl) (loads_agg hb115n.cells (by kernel_rfl) (len_st (len_api_Final _) (by kernel_rfl))) (.tmp (t := 3) (by kernel_rfl) .nil))) ?_
              have hr119 := (hq99 _ (Option.some.inj hp113))
              subst hr119
              exact hR _ _ ⟨rfl, hF117⟩
            · skip
              have hp120 := ite_f hp105 h112
              refine sx_run 8 (todo' := [.inRegion (opsOf (c9 [1, 1, 1, 1, 0, 1, 0, 0, 1, 1, 0, 0, 1, 1, 1, 0])) [3, 4], .code (c9 [1, 1, 1, 1, 0, 1, 0, 0, 1, 1, 0, 0, 1, 1, 1, 1]), .inBlock 1, .code (c9 [1, 1, 1, 1, 0, 1, 0, 0, 1, 1, 1]), .inLoop (c9 [1, 1, 1, 1, 0, 1, 0, 0]), .inBlock 0, .code (c9 [1, 1, 1, 1, 1])]) (us := [(46, .int .i64 t86), (47, .int .i64 u103.1), (48, .pointer (some ((⟨b42, 0, none⟩ : Addr).add 1)))]) (by kernel_rfl) ?_
              obtain ⟨g121, hp122⟩ := ite_some hp120
              refine r_indexArr (c := (c9 [1, 1, 1, 1, 0, 1, 0, 0, 1, 1, 0, 0, 1, 1, 1, 0])) (i := 3) (ty := 0) (d := (some 49)) (t := 22) (e := 2) (sz := 1) (kk := .i64) (x := (.tmp 48)) (y := (.tmp 46)) (a := ((⟨b42, 0, none⟩ : Addr).add 1)) (n := 48) (j := t86) (by kernel_rfl) (by kernel_rfl) (by kernel_rfl) (by kernel_rfl) (by kernel_rfl) (by kernel_rfl) g121.1 g121.2 ?_
              refine r_store (c := (c9 [1, 1, 1, 1, 0, 1, 0, 0, 1, 1, 0, 0, 1, 1, 1, 0])) (i := 4) (ty := 0) (d := none) (t := 2) (x := (.tmp 49)) (y := (.tmp 47)) (v := .int .i64 u103.1) (o := (0 + 1 + t86.toNat * 1)) (vs := [.int .i64 u103.1]) (by kernel_rfl) (by kernel_rfl) (ptr_eq (p := ((((⟨b42, 0, none⟩ : Addr).add 1) : Addr).add (t86.toNat * 1))) (by kernel_rfl) (by simp only [add_lit])) (by kernel_rfl) hb110 (by kernel_rfl) (by kernel_rfl) (by kernel_rfl) (by rw [len_api_Final]; have := g121.1; have := g121.2; simp only [List.length_cons, List.length_nil]; omega) ?_
              intro w123 hb124 hf125
              have hb124n : Blk w123 b42 24 (enc_api_Final (⟨t87.N, (vset t87.V t86 u103.1)⟩ : api_Final)) := Blk.eq hb124 (over_api_Final_V _ _ _ g121.1 g121.2)
              have hF126 : Fr [] w0 w123 := hF108.stepX hf125 (by simpa using hg46)
              have hb127 := hb109.fr hf125 (by simp only [List.mem_singleton]; first | exact hn48 | exact Ne.symm hn48)
              refine sx_run 12 (todo' := [.inLoop (c9 [1, 1, 1, 1, 0, 1, 0, 0]), .inBlock 0, .code (c9 [1, 1, 1, 1, 1])]) (us := [(50, .int .i64 t85), (51, .int .i64 u103.2.1), (52, .int .i64 (IntKind.i64.wrap (t85 + u103.2.1))), (5, .int .i64 (IntKind.i64.wrap (t85 + u103.2.1))), (53, .int .i64 (IntKind.i64.wrap (t86 + 1))), (33, .int .i64 (IntKind.i64.wrap (t86 + 1)))]) (by kernel_rfl) ?_
              refine sx_run 1 (todo' := [.code (c9 [1, 1, 1, 1, 0, 1, 0, 0]), .inLoop (c9 [1, 1, 1, 1, 0, 1, 0, 0]), .inBlock 0, .code (c9 [1, 1, 1, 1, 1])]) (us := []) (by kernel_rfl) ?_
              refine Runs.fill (m := [some (.string a0), none, some (.pointer (some ⟨b1, 0, none⟩)), none, none, some (.int .i64 (IntKind.i64.wrap (t85 + u103.2.1))), none, some (.pointer (some ⟨b42, 0, none⟩)), none, none, none, none, none, none, none, none, none, none, none, none, none, none, none, none, none, none, none, none, none, none, none, none, some (.int .i64 u8.1), some (.int .i64 (IntKind.i64.wrap (t86 + 1))), none, none, none, none, none, none, none, none, none, none, none, none, none, none, none, none, none, none, none, none, none, none, none, none, none, none]) (by kernel_rfl) ?_
              exact ih96 (IntKind.i64.wrap (t85 + u103.2.1)) (IntKind.i64.wrap (t86 + 1)) (⟨t87.N, (vset t87.V t86 u103.1)⟩ : api_Final) _ hp122 he94 _ _ hF126 hb127 hb124n
          · skip
            have hp128 := ite_f hb95 h101
            refine sx_run 4 (todo' := [.code (c9 [1, 1, 1, 1, 1])]) (us := []) (by kernel_rfl) ?_
            refine Runs.fill (m := [some (.string a0), none, some (.pointer (some ⟨b1, 0, none⟩)), none, none, some (.int .i64 t85), none, some (.pointer (some ⟨b42, 0, none⟩)), none, none, none, none, none, none, none, none, none, none, none, none, none, none, none, none, none, none, none, none, none, none, none, none, none, none, none, none, none, none, none, none, none, none, none, none, none, none, none, none, none, none, none, none, none, none, none, none, none, none, none, none]) (by kernel_rfl) ?_
            exact J66 t85 t87 ((Option.some.inj hp128).trans he94) _ _ hF89 hb90 hb91
        refine Runs.fill (m := [some (.string a0), none, some (.pointer (some ⟨b1, 0, none⟩)), none, none, some (.int .i64 u8.2.1), none, some (.pointer (some ⟨b42, 0, none⟩)), none, none, none, none, none, none, none, none, none, none, none, none, none, none, none, none, none, none, none, none, none, none, none, none, some (.int .i64 u8.1), some (.int .i64 0), none, none, none, none, none, none, none, none, none, none, none, none, none, none, none, none, none, none, none, none, none, none, none, none, none, none]) (by kernel_rfl) ?_
        exact L98 u8.2.1 0 (⟨u8.1, (Vector.replicate 48 0)⟩ : api_Final) _ hv57 rfl _ _ hF54 hb55 hb52n

noncomputable def c10 (p : List Nat) : Code := sub (bodyOf Try.f10) p
def weirref10_Decode.l0 (a0 : ByteArray) (t85 : Int) (t86 : Int) (t87 : api_Final) : Option (Sum (Int × api_Final) (api_Final × Int)) :=
  (if (decide (t86 < t87.N)) = true then (weirref04_Take.f a0 t85 >>= fun u103 => (if (u103.2.2 != 0) = true then some (.inr (((⟨0, (Vector.replicate 48 0)⟩ : api_Final), 5))) else (if 0 ≤ t86 ∧ t86 < 48 then (weirref10_Decode.l0 a0 (IntKind.i64.wrap (t85 + u103.2.1)) (IntKind.i64.wrap (t86 + 1)) (⟨t87.N, (vset t87.V t86 u103.1)⟩ : api_Final)) else none))) else some (.inl (t85, t87)))
 partial_fixpoint
def weirref10_Decode.f (a0 : ByteArray) : Option (api_Final × Int) :=
  (weirref04_Take.f a0 0 >>= fun u8 => (if (u8.2.2 != 0) = true then some (((⟨0, (Vector.replicate 48 0)⟩ : api_Final), 5)) else (if (decide (u8.1 < 0)) = true then some (((⟨0, (Vector.replicate 48 0)⟩ : api_Final), 5)) else (if (decide (u8.1 > 48)) = true then some (((⟨0, (Vector.replicate 48 0)⟩ : api_Final), 5)) else (weirref10_Decode.l0 a0 u8.2.1 0 (⟨u8.1, (Vector.replicate 48 0)⟩ : api_Final) >>= (fun | .inl (t59, t60) => (if (t59 != (a0.size : Int)) = true then some (((⟨0, (Vector.replicate 48 0)⟩ : api_Final), 5)) else some ((t60, 0))) | .inr e => some e))))))
theorem weirref10_Decode.ok (a0 : ByteArray) (w0 : World) (r : api_Final × Int) (hp0 : weirref10_Decode.f a0 = some r) :
    Calls Try.prog 10 #[.string a0] w0 (fun e w' => e = .returned (.tuple #[.agg (enc_api_Final r.1).toArray, .int .i64 r.2]) ∧ Fr [] w0 w') := by
  refine calls_abs ?_; intro R hR
  unfold weirref10_Decode.f at hp0
  have hF0 : Fr [] w0 w0 := Fr.refl _ _
  refine calls_of_runs (fn := Try.f10) (c := c10 []) Try.func10 (by kernel_rfl) (al := [.string a0]) rfl (n := 59) rfl ?_
  refine sx_run 2 (todo' := [.inRegion (opsOf (c10 [0])) [0, 1], .code (c10 [1])]) (us := []) (by kernel_rfl) ?_
  refine r_alloc (z := .agg (enc_api_Final (⟨0, (Vector.replicate 48 0)⟩ : api_Final)).toArray) (c := (c10 [0])) (i := 0) (ty := 0) (d := (some 2)) (t := 24) (cs := enc_api_Final (⟨0, (Vector.replicate 48 0)⟩ : api_Final)) (by kernel_rfl) (by kernel_rfl) (by kernel_rfl) (by kernel_rfl) ?_
  intro b1 w2 hn3
  have hg5 : w0.heap.size ≤ b1 := by rw [hn3.num]; exact hF0.size
  have hF7 : Fr [] w0 w2 := hF0.step0 hn3.fr
  have hb4 : Blk w2 b1 24 (enc_api_Final (⟨0, (Vector.replicate 48 0)⟩ : api_Final)) := hn3.blk
  refine sx_run 5 (todo' := [.inRegion (opsOf (c10 [1, 0])) [1, 2, 3, 4, 5, 6, 7, 8], .code (c10 [1, 1])]) (us := [(3, .int .i64 0), (13, .string a0)]) (by kernel_rfl) ?_
  obtain ⟨u8, hu9, hp10⟩ := bind_some' hp0
  refine r_call1 (c := (c10 [1, 0])) (i := 1) (d := (some 14)) (g := 35) (args := #[.string a0, .int .i64 0]) (by kernel_rfl) (by kernel_rfl) (by kernel_rfl) (by kernel_rfl) (weirref04_Take.ok a0 0 _ _ hu9) ?_
  rintro _ w11 ⟨rfl, hf12⟩
  refine ⟨.tuple #[.int .i64 u8.1, .int .i64 u8.2.1, .int .i64 u8.2.2], rfl, ?_⟩
  have hF13 : Fr [] w0 w11 := hF7.step0 hf12
  have hb14 := hb4.fr0 hf12
  refine sx_split 13 (todo' := [.inRegion (opsOf (c10 [1, 1, 0, 0])) [2, 3, 4, 5, 6, 7, 8, 9], .code (c10 [1, 1, 0, 1]), .code (c10 [1, 1, 1])]) (us := [(12, .tuple #[.int .i64 u8.1, .int .i64 u8.2.1, .int .i64 u8.2.2]), (15, .int .i64 u8.1), (16, .int .i64 u8.2.1), (17, .int .i64 u8.2.2), (4, .int .i64 u8.1), (5, .int .i64 u8.2.1), (6, .int .i64 u8.2.2), (18, .int .i64 u8.2.2)]) (d := 19) (t := (u8.2.2 != 0)) (by kernel_rfl) (fun h15 => ?_) (fun h16 => ?_)
  · skip
    have hp17 := ite_t hp10 h15
    refine sx_run 13 (todo' := [.inRegion (opsOf (c10 [1, 1, 0, 1, 0, 0])) [1, 2], .code (c10 [1, 1, 0, 1, 0, 1]), .code (c10 [1, 1, 1])]) (us := [(20, .bool true), (21, undef), (22, undef), (23, .bool true), (24, .bool true), (25, undef), (26, undef), (27, .bool true), (28, .agg (enc_api_Final (⟨0, (Vector.replicate 48 0)⟩ : api_Final)).toArray)]) (by kernel_rfl) ?_
    refine r_store (c := (c10 [1, 1, 0, 1, 0, 0])) (i := 1) (ty := 0) (d := none) (t := 24) (x := (.tmp 2)) (y := (.tmp 28)) (v := .agg (enc_api_Final (⟨0, (Vector.replicate 48 0)⟩ : api_Final)).toArray) (o := 0) (vs := enc_api_Final (⟨0, (Vector.replicate 48 0)⟩ : api_Final)) (by kernel_rfl) (by kernel_rfl) (by kernel_rfl) (by kernel_rfl) hb14 (by kernel_rfl) (len_st (len_api_Final _) (by kernel_rfl)) (one_api_Final _) (by simp [len_api_Final]) ?_
    intro w18 hb19 hf20
    have hb19n : Blk w18 b1 24 (enc_api_Final (⟨0, (Vector.replicate 48 0)⟩ : api_Final)) := Blk.eq hb19 (over_all ((len_api_Final _).trans (len_api_Final _).symm))
    have hF21 : Fr [] w0 w18 := hF13.stepX hf20 (by simpa using hg5)
    refine sx_run 2 (todo' := [.code (c10 [1, 1, 0, 1, 0, 1]), .code (c10 [1, 1, 1])]) (us := [(3, .int .i64 5)]) (by kernel_rfl) ?_
    refine runs_ret (fn := Try.f10) (v := .tuple #[.agg (enc_api_Final (⟨0, (Vector.replicate 48 0)⟩ : api_Final)).toArray, .int .i64 5]) Try.func10 (resl_run (fn := Try.f10) (by kernel_rfl) (.cell (t := 2) (ty := 24) (by kernel_rfl) (loads_agg hb19n.cells (by kernel_rfl) (len_st (len_api_Final _) (by kernel_rfl))) (.tmp (t := 3) (by kernel_rfl) .nil))) ?_
    have hr22 := (Option.some.inj hp17)
    subst hr22
    exact hR _ _ ⟨rfl, hF21⟩
  · skip
    have hp23 := ite_f hp10 h16
    refine sx_split 3 (todo' := [.inRegion (opsOf (c10 [1, 1, 0, 0])) [5, 6, 7, 8, 9], .code (c10 [1, 1, 0, 1]), .code (c10 [1, 1, 1])]) (us := [(20, .bool false), (21, .int .i64 u8.1)]) (d := 22) (t := (decide (u8.1 < 0))) (by kernel_rfl) (fun h24 => ?_) (fun h25 => ?_)
    · skip
      have hp26 := ite_t hp23 h24
      refine sx_run 10 (todo' := [.inRegion (opsOf (c10 [1, 1, 0, 1, 0, 0])) [1, 2], .code (c10 [1, 1, 0, 1, 0, 1]), .code (c10 [1, 1, 1])]) (us := [(23, .bool true), (24, .bool true), (25, undef), (26, undef), (27, .bool true), (28, .agg (enc_api_Final (⟨0, (Vector.replicate 48 0)⟩ : api_Final)).toArray)]) (by kernel_rfl) ?_
      refine r_store (c := (c10 [1, 1, 0, 1, 0, 0])) (i := 1) (ty := 0) (d := none) (t := 24) (x := (.tmp 2)) (y := (.tmp 28)) (v := .agg (enc_api_Final (⟨0, (Vector.replicate 48 0)⟩ : api_Final)).toArray) (o := 0) (vs := enc_api_Final (⟨0, (Vector.replicate 48 0)⟩ : api_Final)) (by kernel_rfl) (by kernel_rfl) (by kernel_rfl) (by kernel_rfl) hb14 (by kernel_rfl) (len_st (len_api_Final _) (by kernel_rfl)) (one_api_Final _) (by simp [len_api_Final]) ?_
      intro w27 hb28 hf29
      have hb28n : Blk w27 b1 24 (enc_api_Final (⟨0, (Vector.replicate 48 0)⟩ : api_Final)) := Blk.eq hb28 (over_all ((len_api_Final _).trans (len_api_Final _).symm))
      have hF30 : Fr [] w0 w27 := hF13.stepX hf29 (by simpa using hg5)
      refine sx_run 2 (todo' := [.code (c10 [1, 1, 0, 1, 0, 1]), .code (c10 [1, 1, 1])]) (us := [(3, .int .i64 5)]) (by kernel_rfl) ?_
      refine runs_ret (fn := Try.f10) (v := .tuple #[.agg (enc_api_Final (⟨0, (Vector.replicate 48 0)⟩ : api_Final)).toArray, .int .i64 5]) Try.func10 (resl_run (fn := Try.f10) (by kernel_rfl) (.cell (t := 2) (ty := 24) (by kernel_rfl) (loads_agg hb28n.cells (by kernel_rfl) (len_st (len_api_Final _) (by kernel_rfl))) (.tmp (t := 3) (by kernel_rfl) .nil))) ?_
      have hr31 := (Option.some.inj hp26)
      subst hr31
      exact hR _ _ ⟨rfl, hF30⟩
    · skip
      have hp32 := ite_f hp23 h25
      refine sx_split 4 (todo' := [.inRegion (opsOf (c10 [1, 1, 0, 0])) [9], .code (c10 [1, 1, 0, 1]), .code (c10 [1, 1, 1])]) (us := [(23, .bool false), (24, .bool false), (25, .int .i64 u8.1)]) (d := 26) (t := (decide (u8.1 > 48))) (by kernel_rfl) (fun h33 => ?_) (fun h34 => ?_)
      · skip
        have hp35 := ite_t hp32 h33
        refine sx_run 6 (todo' := [.inRegion (opsOf (c10 [1, 1, 0, 1, 0, 0])) [1, 2], .code (c10 [1, 1, 0, 1, 0, 1]), .code (c10 [1, 1, 1])]) (us := [(27, .bool true), (28, .agg (enc_api_Final (⟨0, (Vector.replicate 48 0)⟩ : api_Final)).toArray)]) (by kernel_rfl) ?_
        refine r_store (c := (c10 [1, 1, 0, 1, 0, 0])) (i := 1) (ty := 0) (d := none) (t := 24) (x := (.tmp 2)) (y := (.tmp 28)) (v := .agg (enc_api_Final (⟨0, (Vector.replicate 48 0)⟩ : api_Final)).toArray) (o := 0) (vs := enc_api_Final (⟨0, (Vector.replicate 48 0)⟩ : api_Final)) (by kernel_rfl) (by kernel_rfl) (by kernel_rfl) (by kernel_rfl) hb14 (by kernel_rfl) (len_st (len_api_Final _) (by kernel_rfl)) (one_api_Final _) (by simp [len_api_Final]) ?_
        intro w36 hb37 hf38
        have hb37n : Blk w36 b1 24 (enc_api_Final (⟨0, (Vector.replicate 48 0)⟩ : api_Final)) := Blk.eq hb37 (over_all ((len_api_Final _).trans (len_api_Final _).symm))
        have hF39 : Fr [] w0 w36 := hF13.stepX hf38 (by simpa using hg5)
        refine sx_run 2 (todo' := [.code (c10 [1, 1, 0, 1, 0, 1]), .code (c10 [1, 1, 1])]) (us := [(3, .int .i64 5)]) (by kernel_rfl) ?_
        refine runs_ret (fn := Try.f10) (v := .tuple #[.agg (enc_api_Final (⟨0, (Vector.replicate 48 0)⟩ : api_Final)).toArray, .int .i64 5]) Try.func10 (resl_run (fn := Try.f10) (by kernel_rfl) (.cell (t := 2) (ty := 24) (by kernel_rfl) (loads_agg hb37n.cells (by kernel_rfl) (len_st (len_api_Final _) (by kernel_rfl))) (.tmp (t := 3) (by kernel_rfl) .nil))) ?_
        have hr40 := (Option.some.inj hp35)
        subst hr40
        exact hR _ _ ⟨rfl, hF39⟩
      · skip
        have hp41 := ite_f hp32 h34
        refine sx_run 8 (todo' := [.inRegion (opsOf (c10 [1, 1, 1, 0])) [2, 3], .code (c10 [1, 1, 1, 1])]) (us := [(27, .bool false), (29, .int .i64 u8.1), (30, .agg (enc_api_Final (⟨u8.1, (Vector.replicate 48 0)⟩ : api_Final)).toArray)]) (by kernel_rfl) ?_
        refine r_alloc (z := .agg (enc_api_Final (⟨0, (Vector.replicate 48 0)⟩ : api_Final)).toArray) (c := (c10 [1, 1, 1, 0])) (i := 2) (ty := 0) (d := (some 7)) (t := 24) (cs := enc_api_Final (⟨0, (Vector.replicate 48 0)⟩ : api_Final)) (by kernel_rfl) (by kernel_rfl) (by kernel_rfl) (by kernel_rfl) ?_
        intro b42 w43 hn44
        have hg46 : w0.heap.size ≤ b42 := by rw [hn44.num]; exact hF13.size
        have hn48 : b1 ≠ b42 := hn44.ne hb14
        have hF49 : Fr [] w0 w43 := hF13.step0 hn44.fr
        have hb50 := hb14.fr0 hn44.fr
        have hb45 : Blk w43 b42 24 (enc_api_Final (⟨0, (Vector.replicate 48 0)⟩ : api_Final)) := hn44.blk
        refine r_store (c := (c10 [1, 1, 1, 0])) (i := 3) (ty := 0) (d := none) (t := 24) (x := (.tmp 7)) (y := (.tmp 30)) (v := .agg (enc_api_Final (⟨u8.1, (Vector.replicate 48 0)⟩ : api_Final)).toArray) (o := 0) (vs := enc_api_Final (⟨u8.1, (Vector.replicate 48 0)⟩ : api_Final)) (by kernel_rfl) (by kernel_rfl) (by kernel_rfl) (by kernel_rfl) hb45 (by kernel_rfl) (len_st (len_api_Final _) (by kernel_rfl)) (one_api_Final _) (by simp [len_api_Final]) ?_
        intro w51 hb52 hf53
        have hb52n : Blk w51 b42 24 (enc_api_Final (⟨u8.1, (Vector.replicate 48 0)⟩ : api_Final)) := Blk.eq hb52 (over_all ((len_api_Final _).trans (len_api_Final _).symm))
        have hF54 : Fr [] w0 w51 := hF49.stepX hf53 (by simpa using hg46)
        have hb55 := hb50.fr hf53 (by simp only [List.mem_singleton]; first | exact hn48 | exact Ne.symm hn48)
        refine sx_run 8 (todo' := [.code (c10 [1, 1, 1, 1, 0, 1, 0, 0]), .inLoop (c10 [1, 1, 1, 1, 0, 1, 0, 0]), .inBlock 0, .code (c10 [1, 1, 1, 1, 1])]) (us := [(8, .int .i64 0)]) (by kernel_rfl) ?_
        obtain ⟨v56, hv57, hp58⟩ := bind_some' hp41
        have hq65 : ∀ x, Sum.inr x = v56 → x = r := by intro x hx; subst hx; simpa using hp58
        have J66 : ∀ (t59 : Int) (t60 : api_Final) (he68 : Sum.inl (t59, t60) = v56) (l67 : List Value) (w61 : World) (hF62 : Fr [] w0 w61) (hb63 : Blk w61 b1 24 (enc_api_Final (⟨0, (Vector.replicate 48 0)⟩ : api_Final))) (hb64 : Blk w61 b42 24 (enc_api_Final t60)), Runs Try.prog 10 [.code (c10 [1, 1, 1, 1, 1])] (fill [some (.string a0), none, some (.pointer (some ⟨b1, 0, none⟩)), none, none, some (.int .i64 t59), none, some (.pointer (some ⟨b42, 0, none⟩)), none, none, none, none, none, none, none, none, none, none, none, none, none, none, none, none, none, none, none, none, none, none, none, none, none, none, none, none, none, none, none, none, none, none, none, none, none, none, none, none, none, none, none, none, none, none, none, none, none, none, none, none] l67) w61 R := by
          intro t59 t60 he68 l67 w61 hF62 hb63 hb64
          subst he68
          try dsimp only at hp58
          refine sx_split 7 (todo' := [.inRegion (opsOf (c10 [1, 1, 1, 1, 1, 0, 0])) [], .code (c10 [1, 1, 1, 1, 1, 0, 1]), .code (c10 [1, 1, 1, 1, 1, 1])]) (us := [(54, .int .i64 t59), (55, .string a0), (56, .int .i64 (a0.size : Int))]) (d := 57) (t := (t59 != (a0.size : Int))) (by kernel_rfl) (fun h69 => ?_) (fun h70 => ?_)
          · skip
            have hp71 := ite_t hp58 h69
            refine sx_run 5 (todo' := [.inRegion (opsOf (c10 [1, 1, 1, 1, 1, 0, 1, 0, 0])) [1, 2], .code (c10 [1, 1, 1, 1, 1, 0, 1, 0, 1]), .code (c10 [1, 1, 1, 1, 1, 1])]) (us := [(58, .agg (enc_api_Final (⟨0, (Vector.replicate 48 0)⟩ : api_Final)).toArray)]) (by kernel_rfl) ?_
            refine r_store (c := (c10 [1, 1, 1, 1, 1, 0, 1, 0, 0])) (i := 1) (ty := 0) (d := none) (t := 24) (x := (.tmp 2)) (y := (.tmp 58)) (v := .agg (enc_api_Final (⟨0, (Vector.replicate 48 0)⟩ : api_Final)).toArray) (o := 0) (vs := enc_api_Final (⟨0, (Vector.replicate 48 0)⟩ : api_Final)) (by kernel_rfl) (by kernel_rfl) (by kernel_rfl) (by kernel_rfl) hb63 (by kernel_rfl) (len_st (len_api_Final _) (by kernel_rfl)) (one_api_Final _) (by simp [len_api_Final]) ?_
            intro w72 hb73 hf74
            have hb73n : Blk w72 b1 24 (enc_api_Final (⟨0, (Vector.replicate 48 0)⟩ : api_Final)) := Blk.eq hb73 (over_all ((len_api_Final _).trans (len_api_Final _).symm))
            have hF75 : Fr [] w0 w72 := hF62.stepX hf74 (by simpa using hg5)
            have hb76 := hb64.fr hf74 (by simp only [List.mem_singleton]; first | exact hn48 | exact Ne.symm hn48)
            refine sx_run 2 (todo' := [.code (c10 [1, 1, 1, 1, 1, 0, 1, 0, 1]), .code (c10 [1, 1, 1, 1, 1, 1])]) (us := [(3, .int .i64 5)]) (by kernel_rfl) ?_
            refine runs_ret (fn := Try.f10) (v := .tuple #[.agg (enc_api_Final (⟨0, (Vector.replicate 48 0)⟩ : api_Final)).toArray, .int .i64 5]) Try.func10 (resl_run (fn := Try.f10) (by kernel_rfl) (.cell (t := 2) (ty := 24) (by kernel_rfl) (loads_agg hb73n.cells (by kernel_rfl) (len_st (len_api_Final _) (by kernel_rfl))) (.tmp (t := 3) (by kernel_rfl) .nil))) ?_
            have hr77 := (Option.some.inj hp71)
            subst hr77
            exact hR _ _ ⟨rfl, hF75⟩
          · skip
            have hp78 := ite_f hp58 h70
            refine sx_run 5 (todo' := [.inRegion (opsOf (c10 [1, 1, 1, 1, 1, 1, 0])) [0, 1, 2], .code (c10 [1, 1, 1, 1, 1, 1, 1])]) (us := []) (by kernel_rfl) ?_
            refine r_load (c := (c10 [1, 1, 1, 1, 1, 1, 0])) (i := 0) (ty := 24) (d := (some 59)) (t := 24) (x := (.tmp 7)) (p := ⟨b42, 0, none⟩) (v := .agg (enc_api_Final t60).toArray) (by kernel_rfl) (by kernel_rfl) (by kernel_rfl) (loads_agg hb64.cells (by kernel_rfl) (len_st (len_api_Final _) (by kernel_rfl))) ?_
            refine r_store (c := (c10 [1, 1, 1, 1, 1, 1, 0])) (i := 1) (ty := 0) (d := none) (t := 24) (x := (.tmp 2)) (y := (.tmp 59)) (v := .agg (enc_api_Final t60).toArray) (o := 0) (vs := enc_api_Final t60) (by kernel_rfl) (by kernel_rfl) (by kernel_rfl) (by kernel_rfl) hb63 (by kernel_rfl) (len_st (len_api_Final _) (by kernel_rfl)) (one_api_Final _) (by simp [len_api_Final]) ?_
            intro w79 hb80 hf81
            have hb80n : Blk w79 b1 24 (enc_api_Final t60) := Blk.eq hb80 (over_all ((len_api_Final _).trans (len_api_Final _).symm))
            have hF82 : Fr [] w0 w79 := hF62.stepX hf81 (by simpa using hg5)
            have hb83 := hb64.fr hf81 (by simp only [List.mem_singleton]; first | exact hn48 | exact Ne.symm hn48)
            refine sx_run 2 (todo' := [.code (c10 [1, 1, 1, 1, 1, 1, 1])]) (us := [(3, .int .i64 0)]) (by kernel_rfl) ?_
            refine runs_ret (fn := Try.f10) (v := .tuple #[.agg (enc_api_Final t60).toArray, .int .i64 0]) Try.func10 (resl_run (fn := Try.f10) (by kernel_rfl) (.cell (t := 2) (ty := 24) (by kernel_rfl) (loads_agg hb80n.cells (by kernel_rfl) (len_st (len_api_Final _) (by kernel_rfl))) (.tmp (t := 3) (by kernel_rfl) .nil))) ?_
            have hr84 := (Option.some.inj hp78)
            subst hr84
            exact hR _ _ ⟨rfl, hF82⟩
        have L98 : ∀ (t85 : Int) (t86 : Int) (t87 : api_Final) (e93 : Sum (Int × api_Final) (api_Final × Int)), weirref10_Decode.l0 a0 t85 t86 t87 = some e93 → e93 = v56 → ∀ (l92 : List Value) (w88 : World) (hF89 : Fr [] w0 w88) (hb90 : Blk w88 b1 24 (enc_api_Final (⟨0, (Vector.replicate 48 0)⟩ : api_Final))) (hb91 : Blk w88 b42 24 (enc_api_Final t87)), Runs Try.prog 10 [.code (c10 [1, 1, 1, 1, 0, 1, 0, 0]), .inLoop (c10 [1, 1, 1, 1, 0, 1, 0, 0]), .inBlock 0, .code (c10 [1, 1, 1, 1, 1])] (fill [some (.string a0), none, some (.pointer (some ⟨b1, 0, none⟩)), none, none, some (.int .i64 t85), none, some (.pointer (some ⟨b42, 0, none⟩)), some (.int .i64 t86), none, none, none, none, none, none, none, none, none, none, none, none, none, none, none, none, none, none, none, none, none, none, none, none, none, none, none, none, none, none, none, none, none, none, none, none, none, none, none, none, none, none, none, none, none, none, none, none, none, none, none] l92) w88 R := by
          refine weirref10_Decode.l0.partial_correctness a0 (fun t85 t86 t87 e93 => e93 = v56 → ∀ (l92 : List Value) (w88 : World) (hF89 : Fr [] w0 w88) (hb90 : Blk w88 b1 24 (enc_api_Final (⟨0, (Vector.replicate 48 0)⟩ : api_Final))) (hb91 : Blk w88 b42 24 (enc_api_Final t87)), Runs Try.prog 10 [.code (c10 [1, 1, 1, 1, 0, 1, 0, 0]), .inLoop (c10 [1, 1, 1, 1, 0, 1, 0, 0]), .inBlock 0, .code (c10 [1, 1, 1, 1, 1])] (fill [some (.string a0), none, some (.pointer (some ⟨b1, 0, none⟩)), none, none, some (.int .i64 t85), none, some (.pointer (some ⟨b42, 0, none⟩)), some (.int .i64 t86), none, none, none, none, none, none, none, none, none, none, none, none, none, none, none, none, none, none, none, none, none, none, none, none, none, none, none, none, none, none, none, none, none, none, none, none, none, none, none, none, none, none, none, none, none, none, none, none, none, none, none] l92) w88 R) ?_
          intro rec97 ih96 t85 t86 t87 e93 hb95 he94 l92 w88 hF89 hb90 hb91
          have hq99 : ∀ x, Sum.inr x = e93 → x = r := fun x hx => hq65 x (hx.trans he94)
          refine sx_run 5 (todo' := [.inRegion (opsOf (c10 [1, 1, 1, 1, 0, 1, 0, 0, 0, 0])) [2, 3], .code (c10 [1, 1, 1, 1, 0, 1, 0, 0, 0, 1]), .code (c10 [1, 1, 1, 1, 0, 1, 0, 0, 1]), .inLoop (c10 [1, 1, 1, 1, 0, 1, 0, 0]), .inBlock 0, .code (c10 [1, 1, 1, 1, 1])]) (us := [(31, .int .i64 t86), (32, .pointer (some ((⟨b42, 0, none⟩ : Addr).add 0)))]) (by kernel_rfl) ?_
          refine r_load (c := (c10 [1, 1, 1, 1, 0, 1, 0, 0, 0, 0])) (i := 2) (ty := 3) (d := (some 33)) (t := 3) (x := (.tmp 32)) (p := ((⟨b42, 0, none⟩ : Addr).add 0)) (v := .int .i64 t87.N) (by kernel_rfl) (by kernel_rfl) (by kernel_rfl) (loads_at hb91.cells (by kernel_rfl) (by kernel_rfl)) ?_
          refine sx_split 1 (todo' := [.inRegion (opsOf (c10 [1, 1, 1, 1, 0, 1, 0, 0, 0, 0])) [], .code (c10 [1, 1, 1, 1, 0, 1, 0, 0, 0, 1]), .code (c10 [1, 1, 1, 1, 0, 1, 0, 0, 1]), .inLoop (c10 [1, 1, 1, 1, 0, 1, 0, 0]), .inBlock 0, .code (c10 [1, 1, 1, 1, 1])]) (us := []) (d := 34) (t := (decide (t86 < t87.N))) (by kernel_rfl) (fun h100 => ?_) (fun h101 => ?_)
          · skip
            have hp102 := ite_t hb95 h100
            refine sx_run 9 (todo' := [.inRegion (opsOf (c10 [1, 1, 1, 1, 0, 1, 0, 0, 1, 0, 0, 0])) [2, 3, 4, 5, 6, 7, 8, 9], .code (c10 [1, 1, 1, 1, 0, 1, 0, 0, 1, 0, 0, 1]), .inBlock 1, .code (c10 [1, 1, 1, 1, 0, 1, 0, 0, 1, 1]), .inLoop (c10 [1, 1, 1, 1, 0, 1, 0, 0]), .inBlock 0, .code (c10 [1, 1, 1, 1, 1])]) (us := [(38, .string a0), (39, .int .i64 t85)]) (by kernel_rfl) ?_
            obtain ⟨u103, hu104, hp105⟩ := bind_some' hp102
            refine r_call1 (c := (c10 [1, 1, 1, 1, 0, 1, 0, 0, 1, 0, 0, 0])) (i := 2) (d := (some 40)) (g := 35) (args := #[.string a0, .int .i64 t85]) (by kernel_rfl) (by kernel_rfl) (by kernel_rfl) (by kernel_rfl) (weirref04_Take.ok a0 t85 _ _ hu104) ?_
            rintro _ w106 ⟨rfl, hf107⟩
            refine ⟨.tuple #[.int .i64 u103.1, .int .i64 u103.2.1, .int .i64 u103.2.2], rfl, ?_⟩
            have hF108 : Fr [] w0 w106 := hF89.step0 hf107
            have hb109 := hb90.fr0 hf107
            have hb110 := hb91.fr0 hf107
            refine sx_split 13 (todo' := [.inRegion (opsOf (c10 [1, 1, 1, 1, 0, 1, 0, 0, 1, 0, 0, 1, 0, 0])) [], .code (c10 [1, 1, 1, 1, 0, 1, 0, 0, 1, 0, 0, 1, 0, 1]), .code (c10 [1, 1, 1, 1, 0, 1, 0, 0, 1, 0, 0, 1, 1]), .inBlock 1, .code (c10 [1, 1, 1, 1, 0, 1, 0, 0, 1, 1]), .inLoop (c10 [1, 1, 1, 1, 0, 1, 0, 0]), .inBlock 0, .code (c10 [1, 1, 1, 1, 1])]) (us := [(37, .tuple #[.int .i64 u103.1, .int .i64 u103.2.1, .int .i64 u103.2.2]), (41, .int .i64 u103.1), (42, .int .i64 u103.2.1), (43, .int .i64 u103.2.2), (9, .int .i64 u103.1), (10, .int .i64 u103.2.1), (11, .int .i64 u103.2.2), (44, .int .i64 u103.2.2)]) (d := 45) (t := (u103.2.2 != 0)) (by kernel_rfl) (fun h111 => ?_) (fun h112 => ?_)
            · skip
              have hp113 := ite_t hp105 h111
              refine sx_run 5 (todo' := [.inRegion (opsOf (c10 [1, 1, 1, 1, 0, 1, 0, 0, 1, 0, 0, 1, 0, 1, 0, 0])) [1, 2], .code (c10 [1, 1, 1, 1, 0, 1, 0, 0, 1, 0, 0, 1, 0, 1, 0, 1]), .code (c10 [1, 1, 1, 1, 0, 1, 0, 0, 1, 0, 0, 1, 1]), .inBlock 1, .code (c10 [1, 1, 1, 1, 0, 1, 0, 0, 1, 1]), .inLoop (c10 [1, 1, 1, 1, 0, 1, 0, 0]), .inBlock 0, .code (c10 [1, 1, 1, 1, 1])]) (us := [(46, .agg (enc_api_Final (⟨0, (Vector.replicate 48 0)⟩ : api_Final)).toArray)]) (by kernel_rfl) ?_
              refine r_store (c := (c10 [1, 1, 1, 1, 0, 1, 0, 0, 1, 0, 0, 1, 0, 1, 0, 0])) (i := 1) (ty := 0) (d := none) (t := 24) (x := (.tmp 2)) (y := (.tmp 46)) (v := .agg (enc_api_Final (⟨0, (Vector.replicate 48 0)⟩ : api_Final)).toArray) (o := 0) (vs := enc_api_Final (⟨0, (Vector.replicate 48 0)⟩ : api_Final)) (by kernel_rfl) (by kernel_rfl) (by kernel_rfl) (by kernel_rfl) hb109 (by kernel_rfl) (len_st (len_api_Final _) (by kernel_rfl)) (one_api_Final _) (by simp [len_api_Final]) ?_
              intro w114 hb115 hf116
              have hb115n : Blk w114 b1 24 (enc_api_Final (⟨0, (Vector.replicate 48 0)⟩ : api_Final)) := Blk.eq hb115 (over_all ((len_api_Final _).trans (len_api_Final _).symm))
              have hF117 : Fr [] w0 w114 := hF108.stepX hf116 (by simpa using hg5)
              have hb118 := hb110.fr hf116 (by simp only [List.mem_singleton]; first | exact hn48 | exact Ne.symm hn48)
              refine sx_run 2 (todo' := [.code (c10 [1, 1, 1, 1, 0, 1, 0, 0, 1, 0, 0, 1, 0, 1, 0, 1]), .code (c10 [1, 1, 1, 1, 0, 1, 0, 0, 1, 0, 0, 1, 1]), .inBlock 1, .code (c10 [1, 1, 1, 1, 0, 1, 0, 0, 1, 1]), .inLoop (c10 [1, 1, 1, 1, 0, 1, 0, 0]), .inBlock 0, .code (c10 [1, 1, 1, 1, 1])]) (us := [(3, .int .i64 5)]) (by kernel_rfl) ?_
              refine runs_ret (fn := Try.f10) (v := .tuple #[.agg (enc_api_Final (⟨0, (Vector.replicate 48 0)⟩ : api_Final)).toArray, .int .i64 5]) Try.func10 (resl_run (fn := Try.f10) (by kernel_rfl) (.cell (t := 2) (ty := 24) (by kernel_rfl) (loads_agg hb115n.cells (by kernel_rfl) (len_st (len_api_Final _) (by kernel_rfl))) (.tmp (t := 3) (by kernel_rfl) .nil))) ?_
              have hr119 := (hq99 _ (Option.some.inj hp113))
              subst hr119
              exact hR _ _ ⟨rfl, hF117⟩
            · skip
              have hp120 := ite_f hp105 h112
              refine sx_run 8 (todo' := [.inRegion (opsOf (c10 [1, 1, 1, 1, 0, 1, 0, 0, 1, 0, 0, 1, 1, 0])) [3, 4], .code (c10 [1, 1, 1, 1, 0, 1, 0, 0, 1, 0, 0, 1, 1, 1]), .inBlock 1, .code (c10 [1, 1, 1, 1, 0, 1, 0, 0, 1, 1]), .inLoop (c10 [1, 1, 1, 1, 0, 1, 0, 0]), .inBlock 0, .code (c10 [1, 1, 1, 1, 1])]) (us := [(47, .int .i64 t86), (48, .int .i64 u103.1), (49, .pointer (some ((⟨b42, 0, none⟩ : Addr).add 1)))]) (by kernel_rfl) ?_
              obtain ⟨g121, hp122⟩ := ite_some hp120
              refine r_indexArr (c := (c10 [1, 1, 1, 1, 0, 1, 0, 0, 1, 0, 0, 1, 1, 0])) (i := 3) (ty := 0) (d := (some 50)) (t := 22) (e := 2) (sz := 1) (kk := .i64) (x := (.tmp 49)) (y := (.tmp 47)) (a := ((⟨b42, 0, none⟩ : Addr).add 1)) (n := 48) (j := t86) (by kernel_rfl) (by kernel_rfl) (by kernel_rfl) (by kernel_rfl) (by kernel_rfl) (by kernel_rfl) g121.1 g121.2 ?_
              refine r_store (c := (c10 [1, 1, 1, 1, 0, 1, 0, 0, 1, 0, 0, 1, 1, 0])) (i := 4) (ty := 0) (d := none) (t := 2) (x := (.tmp 50)) (y := (.tmp 48)) (v := .int .i64 u103.1) (o := (0 + 1 + t86.toNat * 1)) (vs := [.int .i64 u103.1]) (by kernel_rfl) (by kernel_rfl) (ptr_eq (p := ((((⟨b42, 0, none⟩ : Addr).add 1) : Addr).add (t86.toNat * 1))) (by kernel_rfl) (by simp only [add_lit])) (by kernel_rfl) hb110 (by kernel_rfl) (by kernel_rfl) (by kernel_rfl) (by rw [len_api_Final]; have := g121.1; have := g121.2; simp only [List.length_cons, List.length_nil]; omega) ?_
              intro w123 hb124 hf125
              have hb124n : Blk w123 b42 24 (enc_api_Final (⟨t87.N, (vset t87.V t86 u103.1)⟩ : api_Final)) := Blk.eq hb124 (over_api_Final_V _ _ _ g121.1 g121.2)
              have hF126 : Fr [] w0 w123 := hF108.stepX hf125 (by simpa using hg46)
              have hb127 := hb109.fr hf125 (by simp only [List.mem_singleton]; first | exact hn48 | exact Ne.symm hn48)
              refine sx_run 13 (todo' := [.inLoop (c10 [1, 1, 1, 1, 0, 1, 0, 0]), .inBlock 0, .code (c10 [1, 1, 1, 1, 1])]) (us := [(51, .int .i64 t85), (52, .int .i64 u103.2.1), (53, .int .i64 (IntKind.i64.wrap (t85 + u103.2.1))), (5, .int .i64 (IntKind.i64.wrap (t85 + u103.2.1))), (35, .int .i64 t86), (36, .int .i64 (IntKind.i64.wrap (t86 + 1))), (8, .int .i64 (IntKind.i64.wrap (t86 + 1)))]) (by kernel_rfl) ?_
              refine sx_run 1 (todo' := [.code (c10 [1, 1, 1, 1, 0, 1, 0, 0]), .inLoop (c10 [1, 1, 1, 1, 0, 1, 0, 0]), .inBlock 0, .code (c10 [1, 1, 1, 1, 1])]) (us := []) (by kernel_rfl) ?_
              refine Runs.fill (m := [some (.string a0), none, some (.pointer (some ⟨b1, 0, none⟩)), none, none, some (.int .i64 (IntKind.i64.wrap (t85 + u103.2.1))), none, some (.pointer (some ⟨b42, 0, none⟩)), some (.int .i64 (IntKind.i64.wrap (t86 + 1))), none, none, none, none, none, none, none, none, none, none, none, none, none, none, none, none, none, none, none, none, none, none, none, none, none, none, none, none, none, none, none, none, none, none, none, none, none, none, none, none, none, none, none, none, none, none, none, none, none, none, none]) (by kernel_rfl) ?_
              exact ih96 (IntKind.i64.wrap (t85 + u103.2.1)) (IntKind.i64.wrap (t86 + 1)) (⟨t87.N, (vset t87.V t86 u103.1)⟩ : api_Final) _ hp122 he94 _ _ hF126 hb127 hb124n
          · skip
            have hp128 := ite_f hb95 h101
            refine sx_run 3 (todo' := [.code (c10 [1, 1, 1, 1, 1])]) (us := []) (by kernel_rfl) ?_
            refine Runs.fill (m := [some (.string a0), none, some (.pointer (some ⟨b1, 0, none⟩)), none, none, some (.int .i64 t85), none, some (.pointer (some ⟨b42, 0, none⟩)), none, none, none, none, none, none, none, none, none, none, none, none, none, none, none, none, none, none, none, none, none, none, none, none, none, none, none, none, none, none, none, none, none, none, none, none, none, none, none, none, none, none, none, none, none, none, none, none, none, none, none, none]) (by kernel_rfl) ?_
            exact J66 t85 t87 ((Option.some.inj hp128).trans he94) _ _ hF89 hb90 hb91
        refine Runs.fill (m := [some (.string a0), none, some (.pointer (some ⟨b1, 0, none⟩)), none, none, some (.int .i64 u8.2.1), none, some (.pointer (some ⟨b42, 0, none⟩)), some (.int .i64 0), none, none, none, none, none, none, none, none, none, none, none, none, none, none, none, none, none, none, none, none, none, none, none, none, none, none, none, none, none, none, none, none, none, none, none, none, none, none, none, none, none, none, none, none, none, none, none, none, none, none, none]) (by kernel_rfl) ?_
        exact L98 u8.2.1 0 (⟨u8.1, (Vector.replicate 48 0)⟩ : api_Final) _ hv57 rfl _ _ hF54 hb55 hb52n
end Go.Proofs.Yteppciglfdiljaa.K
