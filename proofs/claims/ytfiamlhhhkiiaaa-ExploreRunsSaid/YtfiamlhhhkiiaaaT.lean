/- weirlaw.ExploreRuns: whatever the input, the call returns true and the arguments read as they did. No condition. -/
import Derived.Test.YtfiamlhhhkiiaaaRows
import Derived.Test.YtfiamlhhhkiiaaaRZ
import Derived.Test.YtfiamlhhhkiiaaaHI
import Derived.SizedLaws
namespace Go.Proofs.Ytfiamlhhhkiiaaa
open Go.ChangeShapes Go.WideShapes Go.ChangeAt Go.RowKit
set_option linter.unusedVariables false

theorem k_own : ownKnob Try.prog.godebug = none := by kernel_rfl
theorem k_laid : laidOutB Try.prog = true := by kernel_rfl

set_option maxRecDepth 100000 in
theorem lifted (os : Os) (started : os.Started) (H : Type) (enc : TypeId × Value → H) :
    ReturnsInHanded {} Try.checked os 5 .any (Rows.exploreRunsSpec.pre6 enc Try.prog Try.f5 Rows.exploreRunsRow.domain false) (Rows.exploreRunsSpec.post enc Try.prog Try.f5 false true false false) := by
  refine returnsInHanded_of_change_sized (C := Try.checked) k_own started (by kernel_rfl) Try.func5
    (ChangeSpec.witness6 (enc := enc) (C := Try.checked) false ⟨#[], #[.agg #[.slice none 0 0, .slice none 0 0, .slice none 0 0, .int .i64 0], .int .i64 0], []⟩ 8 (by kernel_rfl) (by kernel_rfl) (by kernel_rfl) (by kernel_rfl)) ?_
  intro W base args ds gs before hval0 hW _ hsz0 _
  have hsz : (DataW.weightsEach Try.prog (Try.f5.params.toList ++ Rows.exploreRunsSpec.plain.varTypes Try.prog) (ds ++ gs)).all (· ≤ reachBytes) = true := hsz0
  clear hsz0
  have hval : ∀ (j : Nat) t v, Try.f5.params[j]? = some t → args[j]? = some v → Value.okWide Try.prog W .any base t v := hval0
  have hW' := hW
  obtain ⟨p, q, hA0, hV, rfl, _, _⟩ := hW
  have hA : DataW.TrodAll enc Try.prog W 0 (fun _ => true) true Try.f5.params.toList args.toList ds p := hA0
  rw [Try.params5] at hA hval hsz
  obtain ⟨v0, vs0, d0, ds0, p0, q0, hargs0, rfl, rfl, h0, r0⟩ := trodAll_cons hA
  obtain ⟨v1, vs1, d1, ds1, p1, q1, hargs1, rfl, rfl, h1, r1⟩ := trodAll_cons r0
  obtain ⟨rfl, rfl, rfl⟩ := trodAll_nil r1
  obtain rfl : args = #[v0, v1] := by cases args; simp_all
  obtain ⟨rfl, rfl⟩ := trodVars_none hV
  obtain ⟨fuel0, hf0⟩ := h0
  obtain ⟨y0, hr0, hok0, -⟩ := K.opens_weirlaw14_Net enc W _ _ _ _ _ hf0 (fun k hk => by have := List.all_eq_true.1 hsz k (DataW.weights_mem_each (j := 0) (t := 26) rfl rfl k hk); simpa using this)
  obtain ⟨cs0, rfl, hcs0⟩ := okWide_struct (fs := Try.prog.fieldsOf 26) (by kernel_rfl) (hval 0 26 v0 rfl rfl)
  obtain ⟨A0_0, c0_0, A0_1, c0_1, A0_2, c0_2, hc0, hs0_0, hs0_1, hs0_2⟩ := hr0
  obtain rfl : cs0 = ([.slice A0_0 y0.Next.length c0_0] ++ [.slice A0_1 y0.End.length c0_1] ++ [.slice A0_2 y0.Value.length c0_2] ++ (K.encI .i64) y0.Start : List Value).toArray := by have : cs0.toList = ([.slice A0_0 y0.Next.length c0_0] ++ [.slice A0_1 y0.End.length c0_1] ++ [.slice A0_2 y0.Value.length c0_2] ++ (K.encI .i64) y0.Start : List Value) := hc0; rw [← this]
  obtain ⟨fuel1, hf1⟩ := h1
  obtain ⟨y1, hr1, hok1, -⟩ := (K.opens_int (P := Try.prog) (t := 3) (k := .i64) (by kernel_rfl) (by kernel_rfl)) enc W _ _ _ _ _ hf1 (fun k hk => by have := List.all_eq_true.1 hsz k (DataW.weights_mem_each (j := 1) (t := 3) rfl rfl k hk); simpa using this)
  obtain ⟨s1, rfl⟩ := okWide_int Try.underlying3 (hval 1 3 v1 rfl rfl)
  obtain rfl : y1 = s1 := by have : [Value.int .i64 s1] = [Value.int .i64 y1] := hr1; simpa using this.symm
  have hlaw := K.runs_law y0 y1 hok0 hok1
  refine (K.weirlaw14_ExploreRuns.ok y0 y1 _ _ _ _ _ _ (K.St.start W) hs0_0 hs0_1 hs0_2 hlaw).mono fun e W' hh => ?_
  obtain ⟨rfl, hS⟩ := hh
  exact ⟨_, rfl, K.law_post (tb := 4) k_laid (by kernel_rfl) hW' rfl hS.fr rfl rfl Try.underlying4⟩

theorem holds : Rows.ExploreRunsSaid :=
  OpenClaim.holds_of_wide 5 Try.f5 rfl rfl rfl rfl rfl rfl rfl ⟨rfl, rfl, rfl, rfl, rfl⟩ rfl rfl rfl rfl rfl (by kernel_rfl) Try.func5 (by kernel_rfl)
    (of_decide_eq_true (by kernel_rfl)) (by unfold Func.isWrapper; first | (rw [if_pos (by decide +kernel)]; kernel_rfl) | (rw [if_neg (by decide +kernel)]; exact ⟨rfl, rfl⟩))
    (fun os started H enc _ => lifted os started H enc)

#print axioms holds
end Go.Proofs.Ytfiamlhhhkiiaaa
