/- weirlaw.VerdictValues: whatever the input, the call returns true and the arguments read as they did. No condition. -/
import Derived.Test.YtcjaknnihjcajaaGreatRows
import Derived.Test.YtcjaknnihjcajaaGreatFZ
import Derived.Test.YtcjaknnihjcajaaGreatGQ
import Derived.SizedLaws
namespace Go.Proofs.YtcjaknnihjcajaaGreat
open Go.ChangeShapes Go.WideShapes Go.ChangeAt Go.RowKit
set_option linter.unusedVariables false
theorem k_own : ownKnob Tryz.prog.godebug = none := by kernel_rfl
theorem k_laid : laidOutB Tryz.prog = true := by kernel_rfl
set_option maxRecDepth 100000 in
theorem lifted (os : Os) (started : os.Started) (H : Type) (enc : TypeId × Value → H) :
  ReturnsInHanded {} Tryz.checked os 3 .any (Rows.verdictValuesSpec.pre6 enc Tryz.prog Tryz.f3 Rows.verdictValuesRow.domain false) (Rows.verdictValuesSpec.post enc Tryz.prog Tryz.f3 false true false false) := by
 refine returnsInHanded_of_change_sized (C := Tryz.checked) k_own started (by kernel_rfl) Tryz.func3
  (ChangeSpec.witness6 (enc := enc) (C := Tryz.checked) false ⟨#[], #[.agg #[.slice none 0 0, .slice none 0 0, .slice none 0 0, .slice none 0 0, .slice none 0 0], .agg #[.string ByteArray.empty, .string ByteArray.empty, .slice none 0 0, .slice none 0 0, .slice none 0 0, .int .i64 0, .slice none 0 0], .agg ((List.replicate 49 (.int .i64 0 : Value))).toArray, .agg #[.int .i64 0, .string ByteArray.empty]], []⟩ 8 (by kernel_rfl) (by kernel_rfl) (by kernel_rfl) (by kernel_rfl)) ?_
 intro W base args ds gs before hval0 hW _ hsz0 _
 have hsz : (DataW.weightsEach Tryz.prog (Tryz.f3.params.toList ++ Rows.verdictValuesSpec.plain.varTypes Tryz.prog) (ds ++ gs)).all (· ≤ reachBytes) = true := hsz0
 clear hsz0
 have hval : ∀ (j : Nat) t v, Tryz.f3.params[j]? = some t → args[j]? = some v → Value.okWide Tryz.prog W .any base t v := hval0
 have hW' := hW
 obtain ⟨p, q, hA0, hV, rfl, _, _⟩ := hW
 have hA : DataW.TrodAll enc Tryz.prog W 0 (fun _ => true) true Tryz.f3.params.toList args.toList ds p := hA0
 rw [Tryz.params3] at hA hval hsz
 obtain ⟨v0, vs0, d0, ds0, p0, q0, hargs0, rfl, rfl, h0, r0⟩ := trodAll_cons hA
 obtain ⟨v1, vs1, d1, ds1, p1, q1, hargs1, rfl, rfl, h1, r1⟩ := trodAll_cons r0
 obtain ⟨v2, vs2, d2, ds2, p2, q2, hargs2, rfl, rfl, h2, r2⟩ := trodAll_cons r1
 obtain ⟨v3, vs3, d3, ds3, p3, q3, hargs3, rfl, rfl, h3, r3⟩ := trodAll_cons r2
 obtain ⟨rfl, rfl, rfl⟩ := trodAll_nil r3
 obtain rfl : args = #[v0, v1, v2, v3] := by cases args; simp_all
 obtain ⟨rfl, rfl⟩ := trodVars_none hV
 obtain ⟨fuel0, hf0⟩ := h0
 obtain ⟨y0, hr0, hok0, -⟩ := K.opens_api_Prog enc W _ _ _ _ _ hf0 (fun k hk => by have := List.all_eq_true.1 hsz k (DataW.weights_mem_each (j := 0) (t := 28) rfl rfl k hk); simpa using this)
 obtain ⟨cs0, rfl, hcs0⟩ := okWide_struct (fs := Tryz.prog.fieldsOf 28) (by kernel_rfl) (hval 0 28 v0 rfl rfl)
 obtain ⟨A0_0, c0_0, A0_1, c0_1, A0_2, c0_2, A0_3, c0_3, A0_4, c0_4, hc0, hs0_0, hs0_1, hs0_2, hs0_3, hs0_4⟩ := hr0
 obtain rfl : cs0 = ([.slice A0_0 y0.Threads.length c0_0] ++ [.slice A0_1 y0.Regs.length c0_1] ++ [.slice A0_2 y0.Locs.length c0_2] ++ [.slice A0_3 y0.RegInit.length c0_3] ++ [.slice A0_4 y0.LocInit.length c0_4] : List Value).toArray := by have : cs0.toList = ([.slice A0_0 y0.Threads.length c0_0] ++ [.slice A0_1 y0.Regs.length c0_1] ++ [.slice A0_2 y0.Locs.length c0_2] ++ [.slice A0_3 y0.RegInit.length c0_3] ++ [.slice A0_4 y0.LocInit.length c0_4] : List Value) := hc0; rw [← this]
 obtain ⟨fuel1, hf1⟩ := h1
 obtain ⟨y1, hr1, hok1, -⟩ := K.opens_api_Test enc W _ _ _ _ _ hf1 (fun k hk => by have := List.all_eq_true.1 hsz k (DataW.weights_mem_each (j := 1) (t := 35) rfl rfl k hk); simpa using this)
 obtain ⟨cs1, rfl, hcs1⟩ := okWide_struct (fs := Tryz.prog.fieldsOf 35) (by kernel_rfl) (hval 1 35 v1 rfl rfl)
 obtain ⟨A1_2, c1_2, A1_3, c1_3, A1_4, c1_4, A1_6, c1_6, hc1, hs1_2, hs1_3, hs1_4, hs1_6⟩ := hr1
 obtain rfl : cs1 = (K.encS y1.Name ++ K.encS y1.Doc ++ [.slice A1_2 y1.Inits.length c1_2] ++ [.slice A1_3 y1.Threads.length c1_3] ++ [.slice A1_4 y1.Watch.length c1_4] ++ (K.encI .i64) y1.Quant ++ [.slice A1_6 y1.Cond.length c1_6] : List Value).toArray := by have : cs1.toList = (K.encS y1.Name ++ K.encS y1.Doc ++ [.slice A1_2 y1.Inits.length c1_2] ++ [.slice A1_3 y1.Threads.length c1_3] ++ [.slice A1_4 y1.Watch.length c1_4] ++ (K.encI .i64) y1.Quant ++ [.slice A1_6 y1.Cond.length c1_6] : List Value) := hc1; rw [← this]
 obtain ⟨fuel2, hf2⟩ := h2
 obtain ⟨y2, hr2, hok2, -⟩ := K.opens_api_Final enc W _ _ _ _ _ hf2 (fun k hk => by have := List.all_eq_true.1 hsz k (DataW.weights_mem_each (j := 2) (t := 38) rfl rfl k hk); simpa using this)
 obtain ⟨cs2, rfl, hcs2⟩ := okWide_struct (fs := Tryz.prog.fieldsOf 38) (by kernel_rfl) (hval 2 38 v2 rfl rfl)
 obtain rfl : cs2 = (K.enc_api_Final y2).toArray := by have : cs2.toList = K.enc_api_Final y2 := hr2; rw [← this]
 obtain ⟨fuel3, hf3⟩ := h3
 obtain ⟨y3, hr3, hok3, -⟩ := K.opens_api_Ref enc W _ _ _ _ _ hf3 (fun k hk => by have := List.all_eq_true.1 hsz k (DataW.weights_mem_each (j := 3) (t := 40) rfl rfl k hk); simpa using this)
 obtain ⟨cs3, rfl, hcs3⟩ := okWide_struct (fs := Tryz.prog.fieldsOf 40) (by kernel_rfl) (hval 3 40 v3 rfl rfl)
 obtain rfl : cs3 = (K.enc_api_Ref y3).toArray := by have : cs3.toList = K.enc_api_Ref y3 := hr3; rw [← this]
 have hlaw := K.values_law y0 y1 y2 y3 hok0 hok1 hok2 hok3
 refine (K.weirlaw23_VerdictValues.ok y0 y1 y2 y3 _ _ _ _ _ _ _ _ _ _ _ _ _ _ _ _ _ _ (K.St.start W) hs0_0 hs0_1 hs0_2 hs0_3 hs0_4 hs1_2 hs1_3 hs1_4 hs1_6 hlaw).mono fun e W' hh => ?_
 obtain ⟨rfl, hS⟩ := hh
 exact ⟨_, rfl, K.law_post (tb := 4) k_laid (by kernel_rfl) hW' rfl hS.fr rfl rfl Tryz.underlying4⟩
theorem holds : Rows.VerdictValuesSaid :=
 OpenClaim.holds_of_wide 3 Tryz.f3 rfl rfl rfl rfl rfl rfl rfl ⟨rfl, rfl, rfl, rfl, rfl⟩ rfl rfl rfl rfl rfl (by kernel_rfl) Tryz.func3 (by kernel_rfl)
  (of_decide_eq_true (by kernel_rfl)) (by unfold Func.isWrapper; first | (rw [if_pos (by decide +kernel)]; kernel_rfl) | (rw [if_neg (by decide +kernel)]; exact ⟨rfl, rfl⟩))
  (fun os started H enc _ => lifted os started H enc)
#print axioms holds
end Go.Proofs.YtcjaknnihjcajaaGreat
