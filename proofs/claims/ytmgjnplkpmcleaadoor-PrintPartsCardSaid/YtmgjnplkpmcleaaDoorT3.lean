/- weirlaw.PrintParts: whatever the input, the call returns true and the arguments read as they did. No condition. -/
import Derived.Test.YtmgjnplkpmcleaaDoorRows
import Derived.Test.YtmgjnplkpmcleaaDoorO
import Derived.Test.YtmgjnplkpmcleaaDoorYD
import Derived.SizedLaws
import Derived.Test.YtmgjnplkpmcleaaDoorTie
import Derived.Test.YtmgjnplkpmcleaaDoorCards
import Derived.ProofKit
import Derived.LaidMore
import Derived.OpenShut
import Derived.Stop.Joined
import Derived.SevenTiedAt
namespace Go.Proofs.YtmgjnplkpmcleaaDoor
open Go Go.ChangeShapes Go.WideShapes Go.ChangeAt Go.RowKit
set_option linter.unusedVariables false

theorem k_own : ownKnob Tryd.prog.godebug = none := by kernel_rfl
theorem k_laid : laidOutB Tryd.prog = true := by kernel_rfl

def laidL : List (String × DataW Unit) := [("math/bits.deBruijn32tab", Rows.laid_math_bits_deBruijn32tab), ("math/bits.deBruijn64tab", Rows.laid_math_bits_deBruijn64tab), ("internal/strconv.uint64pow10", Rows.laid_internal_strconv_uint64pow10)]
theorem door_met (os : Os) (args : Array Value) : laidMetH Tryd.prog laidL ((World.doorLaid Tryd.prog 24 os).forCall (fun _ _ => 0) ⟨#[], args, []⟩).memory :=
  laidMetH_of_parts3 (fuel := 8) (laidMet_of_run' 8 (by kernel_rfl) (by kernel_rfl)) (by kernel_rfl) (by kernel_rfl)
theorem laid_tail {P : Program} {w : World} {x : String × DataW Unit} {l : List (String × DataW Unit)} {ps : List MemPlace} (h : DataW.LaidVars P w (x :: l) ps) : ∃ q, DataW.LaidVars P w l q := by
  obtain ⟨g, t, cs, fuel, p, q, _, _, _, _, h, _⟩ := h
  exact ⟨q, h⟩
theorem tab_of {P : Program} {W : World} {name : String} {k : IntKind} {zs : List Int} {rest : List (String × DataW Unit)} {g : Nat} {t e : TypeId} {n : Nat} {ps : List MemPlace}
    (hg : P.globalNamed name = some g) (hty : (P.globals[g]?).map (·.type) = some t) (ht : P.underlying t = some (.array n e)) (he : P.underlying e = some (.int k)) (hce : P.cellsOf e = 1) (hct : P.cellsOf t = n)
    (h : DataW.LaidVars P W ((name, Lib.tabData k zs) :: rest) ps) : Lib.TabIs P W name k zs := by
  obtain ⟨g', t', cs, fuel, p, q, hg', ht', hvar, hd, _, _⟩ := h
  obtain rfl := Option.some.inj (hg.symm.trans hg')
  obtain rfl := Option.some.inj (hty.symm.trans ht')
  unfold Lib.TabIs
  rw [hvar, ← Lib.cells_of_tab ht he hce hct hd]
theorem env_of {W : World} (h : laidMetH Tryd.prog laidL W) : K.Env (K.Zold W) := by
  rw [MakeChecks.laidMetH_plain _ _ _ (by kernel_rfl)] at h
  obtain ⟨ps, h0, -, -⟩ := h
  have h0 : ∃ q, DataW.LaidVars Tryd.prog W (laidL.drop 0) q := ⟨_, h0⟩
  have h1 : ∃ q, DataW.LaidVars Tryd.prog W (laidL.drop 1) q := laid_tail h0.choose_spec
  have h2 : ∃ q, DataW.LaidVars Tryd.prog W (laidL.drop 2) q := laid_tail h1.choose_spec
  obtain ⟨q2, k2⟩ := h2
  rw [show laidL.drop 2 = ("internal/strconv.uint64pow10", Lib.tabData .u64 Lib.pow10Tab) :: laidL.drop 3 from by kernel_rfl] at k2
  have t0 : Lib.TabIs Tryd.prog W "internal/strconv.uint64pow10" .u64 Lib.pow10Tab := tab_of (t := 83) (e := 59) (n := Lib.pow10Tab.length) rfl rfl Tryd.underlying83 Tryd.underlying59 (by kernel_rfl) (by kernel_rfl) k2
  exact ⟨fun m => m, K.Tz.of t0⟩
set_option maxRecDepth 100000 in
set_option maxHeartbeats 4000000 in
theorem lifted (os : Os) (started : os.Started) (H : Type) (enc : TypeId × Value → H) :
    ReturnsInHanded {} Tryd.checked os 3 .any (fun w args => (Rows.printPartsSpec.pre enc Tryd.prog Tryd.f3 [] false w args ∧ laidMetH Tryd.prog laidL w) ∧ sizedMet enc Tryd.prog Tryd.f3 (OpenSpec.ofChange Rows.printPartsSpec) false w args) (Rows.printPartsSpec.post enc Tryd.prog Tryd.f3 false true false false) := by
  refine returnsInHanded_of_change_and (C := Tryd.checked) (X := fun w _ => laidMetH Tryd.prog laidL w) (fun _ _ _ hh h => h.of_heap hh) k_own started (by kernel_rfl) Tryd.func3
    (ChangeSpec.witness_shaped (enc := enc) (C := Tryd.checked) (os := os) (X := fun w _ => laidMetH Tryd.prog laidL w) false (World.doorLaid Tryd.prog 24 os) #[.agg #[.int .i64 0, .string ByteArray.empty], .agg #[.int .i64 0, .string ByteArray.empty, .int .i64 0], .agg #[.int .i64 0, .string ByteArray.empty, .string ByteArray.empty, .string ByteArray.empty, .int .i64 0]] 8 rfl (World.shaped_of_RefB (by kernel_rfl) (by kernel_rfl)) (by kernel_rfl) (by kernel_rfl) (by kernel_rfl) (door_met os _)) ?_
  intro W base args ds gs before hval0 hW _ hsz0 hL _
  have hsz : (DataW.weightsEach Tryd.prog (Tryd.f3.params.toList ++ Rows.printPartsSpec.plain.varTypes Tryd.prog) (ds ++ gs)).all (· ≤ reachBytes) = true := hsz0
  clear hsz0
  have hval : ∀ (j : Nat) t v, Tryd.f3.params[j]? = some t → args[j]? = some v → Value.okWide Tryd.prog W .any base t v := hval0
  have hW' := hW
  obtain ⟨p, q, hA0, hV, rfl, _, _⟩ := hW
  have hA : DataW.TrodAll enc Tryd.prog W 0 (fun _ => true) true Tryd.f3.params.toList args.toList ds p := hA0
  rw [Tryd.params3] at hA hval hsz
  obtain ⟨v0, vs0, d0, ds0, p0, q0, hargs0, rfl, rfl, h0, r0⟩ := trodAll_cons hA
  obtain ⟨v1, vs1, d1, ds1, p1, q1, hargs1, rfl, rfl, h1, r1⟩ := trodAll_cons r0
  obtain ⟨v2, vs2, d2, ds2, p2, q2, hargs2, rfl, rfl, h2, r2⟩ := trodAll_cons r1
  obtain ⟨rfl, rfl, rfl⟩ := trodAll_nil r2
  obtain rfl : args = #[v0, v1, v2] := by cases args; simp_all
  obtain ⟨rfl, rfl⟩ := trodVars_none hV
  obtain ⟨fuel0, hf0⟩ := h0
  obtain ⟨y0, hr0, hok0, -⟩ := K.opens_api_Ref enc W _ _ _ _ _ hf0 (fun k hk => by have := List.all_eq_true.1 hsz k (DataW.weights_mem_each (j := 0) (t := 23) rfl rfl k hk); simpa using this)
  obtain ⟨cs0, rfl, hcs0⟩ := okWide_struct (fs := Tryd.prog.fieldsOf 23) (by kernel_rfl) (hval 0 23 v0 rfl rfl)
  obtain rfl : cs0 = (K.enc_api_Ref y0).toArray := by have : cs0.toList = K.enc_api_Ref y0 := hr0; rw [← this]
  obtain ⟨fuel1, hf1⟩ := h1
  obtain ⟨y1, hr1, hok1, -⟩ := K.opens_api_Init enc W _ _ _ _ _ hf1 (fun k hk => by have := List.all_eq_true.1 hsz k (DataW.weights_mem_each (j := 1) (t := 25) rfl rfl k hk); simpa using this)
  obtain ⟨cs1, rfl, hcs1⟩ := okWide_struct (fs := Tryd.prog.fieldsOf 25) (by kernel_rfl) (hval 1 25 v1 rfl rfl)
  obtain rfl : cs1 = (K.enc_api_Init y1).toArray := by have : cs1.toList = K.enc_api_Init y1 := hr1; rw [← this]
  obtain ⟨fuel2, hf2⟩ := h2
  obtain ⟨y2, hr2, hok2, -⟩ := K.opens_api_Instr enc W _ _ _ _ _ hf2 (fun k hk => by have := List.all_eq_true.1 hsz k (DataW.weights_mem_each (j := 2) (t := 27) rfl rfl k hk); simpa using this)
  obtain ⟨cs2, rfl, hcs2⟩ := okWide_struct (fs := Tryd.prog.fieldsOf 27) (by kernel_rfl) (hval 2 27 v2 rfl rfl)
  obtain rfl : cs2 = (K.enc_api_Instr y2).toArray := by have : cs2.toList = K.enc_api_Instr y2 := hr2; rw [← this]
  have hlaw := K.parts_law y0 y1 y2 hok0 hok1 hok2
  refine (K.weirlaw08_PrintParts.ok y0 y1 y2  (K.St.start W)  (env_of hL) hlaw).mono fun e W' hh => ?_
  obtain ⟨rfl, hS⟩ := hh
  exact ⟨_, rfl, K.law_post (tb := 4) k_laid (by kernel_rfl) hW' rfl hS.fr rfl rfl Tryd.underlying4⟩

theorem row_holds : Rows.PrintPartsSaid :=
  OpenClaim.holds_of_wide 3 Tryd.f3 rfl rfl rfl rfl rfl rfl rfl ⟨rfl, rfl, rfl, rfl, rfl⟩ rfl rfl rfl rfl rfl (by kernel_rfl) Tryd.func3 (by kernel_rfl)
    (of_decide_eq_true (by kernel_rfl)) (by unfold Func.isWrapper; first | (rw [if_pos (by decide +kernel)]; kernel_rfl) | (rw [if_neg (by decide +kernel)]; exact ⟨rfl, rfl⟩))
    (fun os started H enc _ => lifted os started H enc)

theorem holds : Rows.PrintPartsCardSaid :=
  Claim7.holds_tied_plain_at .later [] [.data, .data, .data] true (true, "89c3643604d7f7a697ae7acb4d5c6001f7029da983d4821bf96a69b4c3f6c12d") false
    row_holds (fun _ h => by cases h) (by kernel_rfl) (fun _ h => by cases h) printParts_row_tie rfl ⟨rfl, rfl⟩ (by kernel_rfl) rfl
    (fun f fn hf hfn => by
      obtain rfl : f = 3 := Option.some.inj ((show Tryd.prog.funcNamed Rows.printPartsRow.func = some 3 by kernel_rfl).symm.trans hf) |>.symm
      obtain rfl : fn = Tryd.f3 := (Option.some.inj (Tryd.func3.symm.trans hfn)).symm
      exact ⟨by kernel_rfl, fun j t ht => by
        have hm : t ∈ Tryd.f3.params := Array.mem_of_getElem? ht
        have hall : Tryd.f3.params.all (fun t => Tryd.prog.wantsStandIn t == false) = true := by kernel_rfl
        have hz : Tryd.prog.wantsStandIn t = false := by simpa using Array.all_eq_true'.1 hall t hm
        exact hz⟩)
    (by kernel_rfl)

#print axioms holds
end Go.Proofs.YtmgjnplkpmcleaaDoor
