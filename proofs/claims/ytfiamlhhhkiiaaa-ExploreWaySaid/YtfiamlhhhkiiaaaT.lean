/- weirlaw.ExploreWay: whatever the input, the call returns true and the arguments read as they did. No condition. -/
import Derived.Test.YtfiamlhhhkiiaaaRows
import Derived.Test.YtfiamlhhhkiiaaaWZ
import Derived.Test.YtfiamlhhhkiiaaaEK
import Derived.SizedLaws
namespace Go.Proofs.Ytfiamlhhhkiiaaa
open Go.ChangeShapes Go.WideShapes Go.ChangeAt Go.RowKit
set_option linter.unusedVariables false

theorem k_own : ownKnob Try.prog.godebug = none := by kernel_rfl
theorem k_laid : laidOutB Try.prog = true := by kernel_rfl

set_option maxRecDepth 100000 in
theorem lifted (os : Os) (started : os.Started) (H : Type) (enc : TypeId × Value → H) :
    ReturnsInHanded {} Try.checked os 4 .any (Rows.exploreWaySpec.pre6 enc Try.prog Try.f4 Rows.exploreWayRow.domain false) (Rows.exploreWaySpec.post enc Try.prog Try.f4 false true false false) := by
  refine returnsInHanded_of_change_sized (C := Try.checked) k_own started (by kernel_rfl) Try.func4
    (ChangeSpec.witness6 (enc := enc) (C := Try.checked) false ⟨#[], #[.agg #[.slice none 0 0, .slice none 0 0, .slice none 0 0, .int .i64 0], .int .i64 0, .slice none 0 0], []⟩ 8 (by kernel_rfl) (by kernel_rfl) (by kernel_rfl) (by kernel_rfl)) ?_
  intro W base args ds gs before hval0 hW _ hsz0 _
  have hsz : (DataW.weightsEach Try.prog (Try.f4.params.toList ++ Rows.exploreWaySpec.plain.varTypes Try.prog) (ds ++ gs)).all (· ≤ reachBytes) = true := hsz0
  clear hsz0
  have hval : ∀ (j : Nat) t v, Try.f4.params[j]? = some t → args[j]? = some v → Value.okWide Try.prog W .any base t v := hval0
  have hW' := hW
  obtain ⟨p, q, hA0, hV, rfl, _, _⟩ := hW
  have hA : DataW.TrodAll enc Try.prog W 0 (fun _ => true) true Try.f4.params.toList args.toList ds p := hA0
  rw [Try.params4] at hA hval hsz
  obtain ⟨v0, vs0, d0, ds0, p0, q0, hargs0, rfl, rfl, h0, r0⟩ := trodAll_cons hA
  obtain ⟨v1, vs1, d1, ds1, p1, q1, hargs1, rfl, rfl, h1, r1⟩ := trodAll_cons r0
  obtain ⟨v2, vs2, d2, ds2, p2, q2, hargs2, rfl, rfl, h2, r2⟩ := trodAll_cons r1
  obtain ⟨rfl, rfl, rfl⟩ := trodAll_nil r2
  obtain rfl : args = #[v0, v1, v2] := by cases args; simp_all
  obtain ⟨rfl, rfl⟩ := trodVars_none hV
  obtain ⟨fuel0, hf0⟩ := h0
  obtain ⟨y0, hr0, hok0, -⟩ := K.opens_weirlaw14_Net enc W _ _ _ _ _ hf0 (fun k hk => by have := List.all_eq_true.1 hsz k (DataW.weights_mem_each (j := 0) (t := 26) rfl rfl k hk); simpa using this)
  obtain ⟨cs0, rfl, hcs0⟩ := okWide_struct (fs := Try.prog.fieldsOf 26) (by kernel_rfl) (hval 0 26 v0 rfl rfl)
  obtain ⟨A0_0, c0_0, A0_1, c0_1, A0_2, c0_2, hc0, hs0_0, hs0_1, hs0_2⟩ := hr0
  obtain rfl : cs0 = ([.slice A0_0 y0.Next.length c0_0] ++ [.slice A0_1 y0.End.length c0_1] ++ [.slice A0_2 y0.Value.length c0_2] ++ (K.encI .i64) y0.Start : List Value).toArray := by have : cs0.toList = ([.slice A0_0 y0.Next.length c0_0] ++ [.slice A0_1 y0.End.length c0_1] ++ [.slice A0_2 y0.Value.length c0_2] ++ (K.encI .i64) y0.Start : List Value) := hc0; rw [← this]
  obtain ⟨fuel1, hf1⟩ := h1
  obtain ⟨y1, hr1, hok1, -⟩ := (K.opens_int (P := Try.prog) (t := 3) (k := .i64) (by kernel_rfl) (by kernel_rfl)) enc W _ _ _ _ _ hf1 (fun k hk => by have := List.all_eq_true.1 hsz k (DataW.weights_mem_each (j := 1) (t := 3) rfl rfl k hk); simpa using this)
  obtain ⟨s1, rfl⟩ := okWide_int Try.underlying3 (hval 1 3 v1 rfl rfl)
  obtain rfl : y1 = s1 := by have : [Value.int .i64 s1] = [Value.int .i64 y1] := hr1; simpa using this.symm
  obtain ⟨fuel2, hf2⟩ := h2
  obtain ⟨y2, hr2, hok2, -⟩ := (K.opens_sl (P := Try.prog) (t := 37) (e := 3) (sz := 1) (bytes := 8) (K.opens_int (P := Try.prog) (t := 3) (k := .i64) (by kernel_rfl) (by kernel_rfl)) (by kernel_rfl) (by kernel_rfl) (by decide) (by kernel_rfl) (by kernel_rfl)) enc W _ _ _ _ _ hf2 (fun k hk => by have := List.all_eq_true.1 hsz k (DataW.weights_mem_each (j := 2) (t := 37) rfl rfl k hk); simpa using this)
  obtain ⟨a2, len2, cap2, rfl⟩ := okWide_slice Try.underlying37 (hval 2 37 v2 rfl rfl)
  obtain ⟨A2, c2, hc2, hs2⟩ := hr2
  obtain ⟨rfl, rfl, rfl⟩ : a2 = A2 ∧ len2 = y2.length ∧ cap2 = c2 := by simpa [Value.cells] using hc2
  have hlaw := K.way_law y0 y1 y2 hok0 hok1 hok2
  refine (K.weirlaw14_ExploreWay.ok y0 y1 y2 _ _ _ _ _ _ _ _ (K.St.start W) hs0_0 hs0_1 hs0_2 hs2 hlaw).mono fun e W' hh => ?_
  obtain ⟨rfl, hS⟩ := hh
  exact ⟨_, rfl, K.law_post (tb := 4) k_laid (by kernel_rfl) hW' rfl hS.fr rfl rfl Try.underlying4⟩

theorem holds : Rows.ExploreWaySaid :=
  OpenClaim.holds_of_wide 4 Try.f4 rfl rfl rfl rfl rfl rfl rfl ⟨rfl, rfl, rfl, rfl, rfl⟩ rfl rfl rfl rfl rfl (by kernel_rfl) Try.func4 (by kernel_rfl)
    (of_decide_eq_true (by kernel_rfl)) (by unfold Func.isWrapper; first | (rw [if_pos (by decide +kernel)]; kernel_rfl) | (rw [if_neg (by decide +kernel)]; exact ⟨rfl, rfl⟩))
    (fun os started H enc _ => lifted os started H enc)

#print axioms holds
end Go.Proofs.Ytfiamlhhhkiiaaa
