/- weirlaw.ScriptFinishes: whatever the input, the call returns true and the arguments read as they did. No condition but the bulk that the statement itself names. -/
import Derived.Test.YtpmemdhgcelkoaaRows
import Derived.Test.YtpmemdhgcelkoaaUA
import Derived.Test.YtpmemdhgcelkoaaO
import Derived.Test.YtpmemdhgcelkoaaNL
import Derived.SizedLaws
import Derived.Test.YtpmemdhgcelkoaaNU
import Derived.ProofKit
import Derived.OpenShut
import Derived.JoinedCond
namespace Go.Proofs.Ytpmemdhgcelkoaa
open Go Go.ChangeShapes Go.WideShapes Go.ChangeAt Go.RowKit
set_option linter.unusedVariables false

theorem k_own : ownKnob Try.prog.godebug = none := by kernel_rfl
theorem k_laid : laidOutB Try.prog = true := by kernel_rfl

theorem k_sl : K.slB Try.prog 4096 = true := by kernel_rfl
theorem k_ts : (Try.f3.params.toList ++ Rows.scriptFinishesSpec.plain.varTypes Try.prog).all (fun t => decide (t < Try.prog.types.size)) = true := by kernel_rfl
set_option maxRecDepth 100000 in
set_option maxHeartbeats 4000000 in
theorem lifted (os : Os) (started : os.Started) (H : Type) (enc : TypeId × Value → H) (F : Stop.Interp) :
    ReturnsInHanded {} Try.checked os 3 .any ((Rows.OpenSpec.upto Rows.scriptFinishesSpec).pre6 enc Try.prog Try.f3 Rows.scriptFinishesUptoRow.domain false) (((Rows.OpenSpec.upto Rows.scriptFinishesSpec).at F).post enc Try.prog Try.f3 false true false false) := by
  refine returnsInHanded_of_cond (C := Try.checked) (s := Rows.OpenSpec.upto Rows.scriptFinishesSpec) (k := Rows.uptoSmall) rfl k_own started (by kernel_rfl) Try.func3
    (OpenSpec.witness (enc := enc) (C := Try.checked) (s := Rows.OpenSpec.upto Rows.scriptFinishesSpec) (k := Rows.uptoSmall) rfl false ⟨#[], #[.agg #[.slice none 0 0, .int .u64 0, .bool false, .int .i64 0], .string ByteArray.empty, .int .i64 0], []⟩ 8 (by kernel_rfl) (by kernel_rfl) (by kernel_rfl)
      (x := ([.agg [.nil, .lit (.int .u64 0), .lit (.bool false), .lit (.int .i64 0)], .lit (.string []), .lit (.int .i64 0)], [], [])) (by kernel_rfl) rfl (by kernel_rfl)) ?_
  intro W base args ds gs before hval0 hW _ hsmall _
  have hsz : (DataW.weightsEach Try.prog (Try.f3.params.toList ++ Rows.scriptFinishesSpec.plain.varTypes Try.prog) (ds ++ gs)).all (· ≤ K.bnd) = true := K.small_weights k_sl k_ts hsmall
  have hval : ∀ (j : Nat) t v, Try.f3.params[j]? = some t → args[j]? = some v → Value.okWide Try.prog W .any base t v := hval0
  have hW' := hW
  obtain ⟨p, q, hA0, hV, rfl, _, _⟩ := hW
  have hA : DataW.TrodAll enc Try.prog W 0 (fun _ => true) true Try.f3.params.toList args.toList ds p := hA0
  rw [Try.params3] at hA hval hsz
  obtain ⟨v0, vs0, d0, ds0, p0, q0, hargs0, rfl, rfl, h0, r0⟩ := trodAll_cons hA
  obtain ⟨v1, vs1, d1, ds1, p1, q1, hargs1, rfl, rfl, h1, r1⟩ := trodAll_cons r0
  obtain ⟨v2, vs2, d2, ds2, p2, q2, hargs2, rfl, rfl, h2, r2⟩ := trodAll_cons r1
  obtain ⟨rfl, rfl, rfl⟩ := trodAll_nil r2
  obtain rfl : args = #[v0, v1, v2] := by cases args; simp_all
  obtain ⟨rfl, rfl⟩ := trodVars_none hV
  obtain ⟨fuel0, hf0⟩ := h0
  obtain ⟨y0, hr0, hok0, -⟩ := K.opens_weirlaw15_Graph enc W _ _ _ _ _ hf0 (fun k hk => by have := List.all_eq_true.1 hsz k (DataW.weights_mem_each (j := 0) (t := 25) rfl rfl k hk); simpa using this)
  obtain ⟨cs0, rfl, hcs0⟩ := okWide_struct (fs := Try.prog.fieldsOf 25) (by kernel_rfl) (hval 0 25 v0 rfl rfl)
  obtain ⟨A0_0, c0_0, hc0, hs0_0⟩ := hr0
  obtain rfl : cs0 = ([.slice A0_0 y0.To.length c0_0] ++ (K.encI .u64) y0.Ends ++ K.encB y0.Odd ++ (K.encI .i64) y0.Holes : List Value).toArray := by have : cs0.toList = ([.slice A0_0 y0.To.length c0_0] ++ (K.encI .u64) y0.Ends ++ K.encB y0.Odd ++ (K.encI .i64) y0.Holes : List Value) := hc0; rw [← this]
  obtain ⟨fuel1, hf1⟩ := h1
  obtain ⟨y1, hr1, hok1, -⟩ := (K.opens_str (P := Try.prog) (t := 9) (by kernel_rfl) (by kernel_rfl)) enc W _ _ _ _ _ hf1 (fun k hk => by have := List.all_eq_true.1 hsz k (DataW.weights_mem_each (j := 1) (t := 9) rfl rfl k hk); simpa using this)
  obtain ⟨s1, rfl⟩ := okWide_string Try.underlying9 (hval 1 9 v1 rfl rfl)
  obtain rfl : y1 = s1 := by have : [Value.string s1] = [Value.string y1] := hr1; simpa using this.symm
  obtain ⟨fuel2, hf2⟩ := h2
  obtain ⟨y2, hr2, hok2, -⟩ := (K.opens_int (P := Try.prog) (t := 3) (k := .i64) (by kernel_rfl) (by kernel_rfl)) enc W _ _ _ _ _ hf2 (fun k hk => by have := List.all_eq_true.1 hsz k (DataW.weights_mem_each (j := 2) (t := 3) rfl rfl k hk); simpa using this)
  obtain ⟨s2, rfl⟩ := okWide_int Try.underlying3 (hval 2 3 v2 rfl rfl)
  obtain rfl : y2 = s2 := by have : [Value.int .i64 s2] = [Value.int .i64 y2] := hr2; simpa using this.symm
  have hlaw := K.finish_law y0 y1 y2 hok0 hok1 hok2
  refine (K.weirlaw15_ScriptFinishes.ok y0 y1 y2 _ _ (K.St.start W) hs0_0 hlaw).mono fun e W' hh => ?_
  obtain ⟨rfl, hS⟩ := hh
  exact ⟨_, rfl, K.law_post (tb := 4) k_laid (by kernel_rfl) hW' rfl hS.fr rfl rfl Try.underlying4⟩

theorem holds : Rows.ScriptFinishesUptoSaid :=
  OpenClaim.holds_of_cond 3 Try.f3 rfl rfl rfl rfl rfl rfl rfl ⟨rfl, rfl, rfl, rfl, rfl⟩ rfl rfl rfl rfl rfl (by kernel_rfl) Try.func3 (by kernel_rfl)
    (of_decide_eq_true (by kernel_rfl)) (by unfold Func.isWrapper; first | (rw [if_pos (by decide +kernel)]; kernel_rfl) | (rw [if_neg (by decide +kernel)]; exact ⟨rfl, rfl⟩))
    (fun os started H enc _ F => lifted os started H enc F)

#print axioms holds
end Go.Proofs.Ytpmemdhgcelkoaa
