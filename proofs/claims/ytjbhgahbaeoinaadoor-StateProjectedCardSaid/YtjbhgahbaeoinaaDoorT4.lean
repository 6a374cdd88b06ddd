/- weirlaw.StateProjected: whatever the input, the call returns true and the arguments read as they did. No condition. -/
import Derived.Test.YtjbhgahbaeoinaaDoorRows
import Derived.Test.YtjbhgahbaeoinaaDoorRQ
import Derived.Test.YtjbhgahbaeoinaaDoorO
import Derived.Test.YtjbhgahbaeoinaaDoorNL
import Derived.Test.YtjbhgahbaeoinaaDoorNV
import Derived.SizedLaws
import Derived.Test.YtjbhgahbaeoinaaDoorTie
import Derived.Test.YtjbhgahbaeoinaaDoorCards
import Derived.ProofKit
import Derived.LaidMore
import Derived.OpenShut
import Derived.Stop.Joined
import Derived.SevenTiedAt
namespace Go.Proofs.YtjbhgahbaeoinaaDoor
open Go Go.ChangeShapes Go.WideShapes Go.ChangeAt Go.RowKit
set_option linter.unusedVariables false

theorem k_own : ownKnob Tryd.prog.godebug = none := by kernel_rfl
theorem k_laid : laidOutB Tryd.prog = true := by kernel_rfl

def laidL : List (String × DataW Unit) := [("math/bits.deBruijn32tab", Rows.laid_math_bits_deBruijn32tab), ("math/bits.deBruijn64tab", Rows.laid_math_bits_deBruijn64tab), ("internal/strconv.uint64pow10", Rows.laid_internal_strconv_uint64pow10)]
theorem door_met (os : Os) (args : Array Value) : laidMetH Tryd.prog laidL ((World.doorLaid Tryd.prog 24 os).forCall (fun _ _ => 0) ⟨#[], args, []⟩).memory :=
  laidMetH_of_parts3 (fuel := 8) (laidMet_of_run' 8 (by kernel_rfl) (by kernel_rfl)) (by kernel_rfl) (by kernel_rfl)
theorem laid_tail {P : Program} {w : World} {x : String × DataW Unit} {l : List (String × DataW Unit)} {ps : List MemPlace} (h : DataW.LaidVars P w (x :: l) ps) : ∃ q, DataW.LaidVars P w l q := by
  obtain ⟨g, t, cs, fuel, p, q, _, _, _, _, h, _⟩ := h
  exact ⟨q, h⟩
theorem tab_of {P : Program} {W : World} {name : String} {k : IntKind} {zs : List Int} {rest : List (String × DataW Unit)} {g : Nat} {t e : TypeId} {n : Nat} {ps : List MemPlace}
    (hg : P.globalNamed name = some g) (hty : (P.globals[g]?).map (·.type) = some t) (ht : P.underlying t = some (.array n e)) (he : P.underlying e = some (.int k)) (hce : P.cellsOf e = 1) (hct : P.cellsOf t = n)
    (h : DataW.LaidVars P W ((name, Lib.tabData k zs) :: rest) ps) : Lib.TabIs P W name k zs := by
  obtain ⟨g', t', cs, fuel, p, q, hg', ht', hvar, hd, _, _⟩ := h
  obtain rfl := Option.some.inj (hg.symm.trans hg')
  obtain rfl := Option.some.inj (hty.symm.trans ht')
  unfold Lib.TabIs
  rw [hvar, ← Lib.cells_of_tab ht he hce hct hd]
theorem env_of {W : World} (h : laidMetH Tryd.prog laidL W) : K.Env (K.Zold W) := by
  rw [MakeChecks.laidMetH_plain _ _ _ (by kernel_rfl)] at h
  obtain ⟨ps, h0, -, -⟩ := h
  have h0 : ∃ q, DataW.LaidVars Tryd.prog W (laidL.drop 0) q := ⟨_, h0⟩
  have h1 : ∃ q, DataW.LaidVars Tryd.prog W (laidL.drop 1) q := laid_tail h0.choose_spec
  have h2 : ∃ q, DataW.LaidVars Tryd.prog W (laidL.drop 2) q := laid_tail h1.choose_spec
  obtain ⟨q2, k2⟩ := h2
  rw [show laidL.drop 2 = ("internal/strconv.uint64pow10", Lib.tabData .u64 Lib.pow10Tab) :: laidL.drop 3 from by kernel_rfl] at k2
  have t0 : Lib.TabIs Tryd.prog W "internal/strconv.uint64pow10" .u64 Lib.pow10Tab := tab_of (t := 112) (e := 79) (n := Lib.pow10Tab.length) rfl rfl Tryd.underlying112 Tryd.underlying79 (by kernel_rfl) (by kernel_rfl) k2
  exact ⟨fun m => m, K.Tz.of t0⟩
set_option maxRecDepth 100000 in
set_option maxHeartbeats 4000000 in
theorem lifted (os : Os) (started : os.Started) (H : Type) (enc : TypeId × Value → H) :
    ReturnsInHanded {} Tryd.checked os 4 .any (fun w args => (Rows.stateProjectedSpec.pre enc Tryd.prog Tryd.f4 [] false w args ∧ laidMetH Tryd.prog laidL w) ∧ sizedMet enc Tryd.prog Tryd.f4 (OpenSpec.ofChange Rows.stateProjectedSpec) false w args) (Rows.stateProjectedSpec.post enc Tryd.prog Tryd.f4 false true false false) := by
  refine returnsInHanded_of_change_and (C := Tryd.checked) (X := fun w _ => laidMetH Tryd.prog laidL w) (fun _ _ _ hh h => h.of_heap hh) k_own started (by kernel_rfl) Tryd.func4
    (ChangeSpec.witness_shaped (enc := enc) (C := Tryd.checked) (os := os) (X := fun w _ => laidMetH Tryd.prog laidL w) false (World.doorLaid Tryd.prog 24 os) #[.slice none 0 0, .int .i64 0, .slice none 0 0, .slice none 0 0] 8 rfl (World.shaped_of_RefB (by kernel_rfl) (by kernel_rfl)) (by kernel_rfl) (by kernel_rfl) (by kernel_rfl) (door_met os _)) ?_
  intro W base args ds gs before hval0 hW _ hsz0 hL _
  have hsz : (DataW.weightsEach Tryd.prog (Tryd.f4.params.toList ++ Rows.stateProjectedSpec.plain.varTypes Tryd.prog) (ds ++ gs)).all (· ≤ reachBytes) = true := hsz0
  clear hsz0
  have hval : ∀ (j : Nat) t v, Tryd.f4.params[j]? = some t → args[j]? = some v → Value.okWide Tryd.prog W .any base t v := hval0
  have hW' := hW
  obtain ⟨p, q, hA0, hV, rfl, _, _⟩ := hW
  have hA : DataW.TrodAll enc Tryd.prog W 0 (fun _ => true) true Tryd.f4.params.toList args.toList ds p := hA0
  rw [Tryd.params4] at hA hval hsz
  obtain ⟨v0, vs0, d0, ds0, p0, q0, hargs0, rfl, rfl, h0, r0⟩ := trodAll_cons hA
  obtain ⟨v1, vs1, d1, ds1, p1, q1, hargs1, rfl, rfl, h1, r1⟩ := trodAll_cons r0
  obtain ⟨v2, vs2, d2, ds2, p2, q2, hargs2, rfl, rfl, h2, r2⟩ := trodAll_cons r1
  obtain ⟨v3, vs3, d3, ds3, p3, q3, hargs3, rfl, rfl, h3, r3⟩ := trodAll_cons r2
  obtain ⟨rfl, rfl, rfl⟩ := trodAll_nil r3
  obtain rfl : args = #[v0, v1, v2, v3] := by cases args; simp_all
  obtain ⟨rfl, rfl⟩ := trodVars_none hV
  obtain ⟨fuel0, hf0⟩ := h0
  obtain ⟨y0, hr0, hok0, -⟩ := (K.opens_sl (P := Tryd.prog) (t := 28) (e := 24) (sz := 49) (bytes := 392) K.opens_api_Final (by kernel_rfl) (by kernel_rfl) (by decide) (by kernel_rfl) (by kernel_rfl)) enc W _ _ _ _ _ hf0 (fun k hk => by have := List.all_eq_true.1 hsz k (DataW.weights_mem_each (j := 0) (t := 28) rfl rfl k hk); simpa using this)
  obtain ⟨a0, len0, cap0, rfl⟩ := okWide_slice Tryd.underlying28 (hval 0 28 v0 rfl rfl)
  obtain ⟨A0, c0, hc0, hs0⟩ := hr0
  obtain ⟨rfl, rfl, rfl⟩ : a0 = A0 ∧ len0 = y0.length ∧ cap0 = c0 := by simpa [Value.cells] using hc0
  obtain ⟨fuel1, hf1⟩ := h1
  obtain ⟨y1, hr1, hok1, -⟩ := (K.opens_int (P := Tryd.prog) (t := 3) (k := .i64) (by kernel_rfl) (by kernel_rfl)) enc W _ _ _ _ _ hf1 (fun k hk => by have := List.all_eq_true.1 hsz k (DataW.weights_mem_each (j := 1) (t := 3) rfl rfl k hk); simpa using this)
  obtain ⟨s1, rfl⟩ := okWide_int Tryd.underlying3 (hval 1 3 v1 rfl rfl)
  obtain rfl : y1 = s1 := by have : [Value.int .i64 s1] = [Value.int .i64 y1] := hr1; simpa using this.symm
  obtain ⟨fuel2, hf2⟩ := h2
  obtain ⟨y2, hr2, hok2, -⟩ := (K.opens_sl (P := Tryd.prog) (t := 29) (e := 3) (sz := 1) (bytes := 8) (K.opens_int (P := Tryd.prog) (t := 3) (k := .i64) (by kernel_rfl) (by kernel_rfl)) (by kernel_rfl) (by kernel_rfl) (by decide) (by kernel_rfl) (by kernel_rfl)) enc W _ _ _ _ _ hf2 (fun k hk => by have := List.all_eq_true.1 hsz k (DataW.weights_mem_each (j := 2) (t := 29) rfl rfl k hk); simpa using this)
  obtain ⟨a2, len2, cap2, rfl⟩ := okWide_slice Tryd.underlying29 (hval 2 29 v2 rfl rfl)
  obtain ⟨A2, c2, hc2, hs2⟩ := hr2
  obtain ⟨rfl, rfl, rfl⟩ : a2 = A2 ∧ len2 = y2.length ∧ cap2 = c2 := by simpa [Value.cells] using hc2
  obtain ⟨fuel3, hf3⟩ := h3
  obtain ⟨y3, hr3, hok3, -⟩ := (K.opens_sl (P := Tryd.prog) (t := 29) (e := 3) (sz := 1) (bytes := 8) (K.opens_int (P := Tryd.prog) (t := 3) (k := .i64) (by kernel_rfl) (by kernel_rfl)) (by kernel_rfl) (by kernel_rfl) (by decide) (by kernel_rfl) (by kernel_rfl)) enc W _ _ _ _ _ hf3 (fun k hk => by have := List.all_eq_true.1 hsz k (DataW.weights_mem_each (j := 3) (t := 29) rfl rfl k hk); simpa using this)
  obtain ⟨a3, len3, cap3, rfl⟩ := okWide_slice Tryd.underlying29 (hval 3 29 v3 rfl rfl)
  obtain ⟨A3, c3, hc3, hs3⟩ := hr3
  obtain ⟨rfl, rfl, rfl⟩ : a3 = A3 ∧ len3 = y3.length ∧ cap3 = c3 := by simpa [Value.cells] using hc3
  have hlaw := K.proj_law y0 y1 y2 y3 hok0 hok1 hok2 hok3
  refine (K.weirlaw10_StateProjected.ok y0 y1 y2 y3 _ _ _ _ _ _ (K.St.start W) hs0 hs2 hs3 (env_of hL) hlaw).mono fun e W' hh => ?_
  obtain ⟨rfl, hS⟩ := hh
  exact ⟨_, rfl, K.law_post (tb := 4) k_laid (by kernel_rfl) hW' rfl hS.fr rfl rfl Tryd.underlying4⟩

theorem row_holds : Rows.StateProjectedSaid :=
  OpenClaim.holds_of_wide 4 Tryd.f4 rfl rfl rfl rfl rfl rfl rfl ⟨rfl, rfl, rfl, rfl, rfl⟩ rfl rfl rfl rfl rfl (by kernel_rfl) Tryd.func4 (by kernel_rfl)
    (of_decide_eq_true (by kernel_rfl)) (by unfold Func.isWrapper; first | (rw [if_pos (by decide +kernel)]; kernel_rfl) | (rw [if_neg (by decide +kernel)]; exact ⟨rfl, rfl⟩))
    (fun os started H enc _ => lifted os started H enc)

theorem holds : Rows.StateProjectedCardSaid :=
  Claim7.holds_tied_plain_at .later [] [.data, .data, .data] true (true, "ff52eff4cd6f39b78f613005273bb1bc7e12276f80ff5686b2ac53ef27dfd05b") false
    row_holds (fun _ h => by cases h) (by kernel_rfl) (fun _ h => by cases h) stateProjected_row_tie rfl ⟨rfl, rfl⟩ (by kernel_rfl) rfl
    (fun f fn hf hfn => by
      obtain rfl : f = 4 := Option.some.inj ((show Tryd.prog.funcNamed Rows.stateProjectedRow.func = some 4 by kernel_rfl).symm.trans hf) |>.symm
      obtain rfl : fn = Tryd.f4 := (Option.some.inj (Tryd.func4.symm.trans hfn)).symm
      exact ⟨by kernel_rfl, fun j t ht => by
        have hm : t ∈ Tryd.f4.params := Array.mem_of_getElem? ht
        have hall : Tryd.f4.params.all (fun t => Tryd.prog.wantsStandIn t == false) = true := by kernel_rfl
        have hz : Tryd.prog.wantsStandIn t = false := by simpa using Array.all_eq_true'.1 hall t hm
        exact hz⟩)
    (by kernel_rfl)

#print axioms holds
end Go.Proofs.YtjbhgahbaeoinaaDoor
