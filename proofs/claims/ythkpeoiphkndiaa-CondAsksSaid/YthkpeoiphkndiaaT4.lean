/- weirlaw.CondAsks: whatever the input, the call returns true and the arguments read as they did. No condition. -/
import Derived.Test.YthkpeoiphkndiaaRows
import Derived.Test.YthkpeoiphkndiaaVE
import Derived.Test.YthkpeoiphkndiaaO
import Derived.Test.YthkpeoiphkndiaaNL
import Derived.SizedLaws
namespace Go.Proofs.Ythkpeoiphkndiaa
open Go.ChangeShapes Go.WideShapes Go.ChangeAt Go.RowKit
set_option linter.unusedVariables false

theorem k_own : ownKnob Try.prog.godebug = none := by kernel_rfl
theorem k_laid : laidOutB Try.prog = true := by kernel_rfl

set_option maxRecDepth 100000 in
theorem lifted (os : Os) (started : os.Started) (H : Type) (enc : TypeId × Value → H) :
    ReturnsInHanded {} Try.checked os 4 .any (Rows.condAsksSpec.pre6 enc Try.prog Try.f4 Rows.condAsksRow.domain false) (Rows.condAsksSpec.post enc Try.prog Try.f4 false true false false) := by
  refine returnsInHanded_of_change_sized (C := Try.checked) k_own started (by kernel_rfl) Try.func4
    (ChangeSpec.witness6 (enc := enc) (C := Try.checked) false ⟨#[], #[.slice none 0 0, .agg #[.slice none 0 0, .slice none 0 0, .int .i64 0]], []⟩ 8 (by kernel_rfl) (by kernel_rfl) (by kernel_rfl) (by kernel_rfl)) ?_
  intro W base args ds gs before hval0 hW _ hsz0 _
  have hsz : (DataW.weightsEach Try.prog (Try.f4.params.toList ++ Rows.condAsksSpec.plain.varTypes Try.prog) (ds ++ gs)).all (· ≤ reachBytes) = true := hsz0
  clear hsz0
  have hval : ∀ (j : Nat) t v, Try.f4.params[j]? = some t → args[j]? = some v → Value.okWide Try.prog W .any base t v := hval0
  have hW' := hW
  obtain ⟨p, q, hA0, hV, rfl, _, _⟩ := hW
  have hA : DataW.TrodAll enc Try.prog W 0 (fun _ => true) true Try.f4.params.toList args.toList ds p := hA0
  rw [Try.params4] at hA hval hsz
  obtain ⟨v0, vs0, d0, ds0, p0, q0, hargs0, rfl, rfl, h0, r0⟩ := trodAll_cons hA
  obtain ⟨v1, vs1, d1, ds1, p1, q1, hargs1, rfl, rfl, h1, r1⟩ := trodAll_cons r0
  obtain ⟨rfl, rfl, rfl⟩ := trodAll_nil r1
  obtain rfl : args = #[v0, v1] := by cases args; simp_all
  obtain ⟨rfl, rfl⟩ := trodVars_none hV
  obtain ⟨fuel0, hf0⟩ := h0
  obtain ⟨y0, hr0, hok0, -⟩ := (K.opens_sl (P := Try.prog) (t := 23) (e := 52) (sz := 6) (bytes := 56) K.opens_api_Node (by kernel_rfl) (by kernel_rfl) (by decide) (by kernel_rfl) (by kernel_rfl)) enc W _ _ _ _ _ hf0 (fun k hk => by have := List.all_eq_true.1 hsz k (DataW.weights_mem_each (j := 0) (t := 23) rfl rfl k hk); simpa using this)
  obtain ⟨a0, len0, cap0, rfl⟩ := okWide_slice Try.underlying23 (hval 0 23 v0 rfl rfl)
  obtain ⟨A0, c0, hc0, hs0⟩ := hr0
  obtain ⟨rfl, rfl, rfl⟩ : a0 = A0 ∧ len0 = y0.length ∧ cap0 = c0 := by simpa [Value.cells] using hc0
  obtain ⟨fuel1, hf1⟩ := h1
  obtain ⟨y1, hr1, hok1, -⟩ := K.opens_weirlaw06_Set enc W _ _ _ _ _ hf1 (fun k hk => by have := List.all_eq_true.1 hsz k (DataW.weights_mem_each (j := 1) (t := 37) rfl rfl k hk); simpa using this)
  obtain ⟨cs1, rfl, hcs1⟩ := okWide_struct (fs := Try.prog.fieldsOf 37) (by kernel_rfl) (hval 1 37 v1 rfl rfl)
  obtain ⟨A1_0, c1_0, A1_1, c1_1, hc1, hs1_0, hs1_1⟩ := hr1
  obtain rfl : cs1 = ([.slice A1_0 y1.Refs.length c1_0] ++ [.slice A1_1 y1.Values.length c1_1] ++ (K.encI .i64) y1.Rest : List Value).toArray := by have : cs1.toList = ([.slice A1_0 y1.Refs.length c1_0] ++ [.slice A1_1 y1.Values.length c1_1] ++ (K.encI .i64) y1.Rest : List Value) := hc1; rw [← this]
  have hlaw := K.asks_law y0 y1 hok0 hok1
  refine (K.weirlaw06_CondAsks.ok y0 y1 _ _ _ _ _ _ (K.St.start W) hs0 hs1_0 hs1_1 hlaw).mono fun e W' hh => ?_
  obtain ⟨rfl, hS⟩ := hh
  exact ⟨_, rfl, K.law_post (tb := 4) k_laid (by kernel_rfl) hW' rfl hS.fr rfl rfl Try.underlying4⟩

theorem holds : Rows.CondAsksSaid :=
  OpenClaim.holds_of_wide 4 Try.f4 rfl rfl rfl rfl rfl rfl rfl ⟨rfl, rfl, rfl, rfl, rfl⟩ rfl rfl rfl rfl rfl (by kernel_rfl) Try.func4 (by kernel_rfl)
    (of_decide_eq_true (by kernel_rfl)) (by unfold Func.isWrapper; first | (rw [if_pos (by decide +kernel)]; kernel_rfl) | (rw [if_neg (by decide +kernel)]; exact ⟨rfl, rfl⟩))
    (fun os started H enc _ => lifted os started H enc)

#print axioms holds
end Go.Proofs.Ythkpeoiphkndiaa
