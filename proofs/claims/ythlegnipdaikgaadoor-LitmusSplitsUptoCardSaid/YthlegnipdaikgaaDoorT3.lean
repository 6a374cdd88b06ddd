/- weirlaw07.LitmusSplits: whatever the text, the call returns true and the text reads as it did; where what it reads is of bulk at most 1048576. No other condition. -/
import Derived.Test.YthlegnipdaikgaaDoorRows
import Derived.Test.YthlegnipdaikgaaDoorWC
import Derived.Test.YthlegnipdaikgaaDoorO
import Derived.Test.YthlegnipdaikgaaDoorNL
import Derived.Test.YthlegnipdaikgaaDoorNV
import Derived.SizedLaws
import Derived.Test.YthlegnipdaikgaaDoorTie
import Derived.Test.YthlegnipdaikgaaDoorCards
import Derived.ProofKit
import Derived.LaidMore
import Derived.OpenShut
import Derived.Lay
import Derived.Deep.DeepHandedRow
import Derived.ChangeMaps5
import Derived.SevenTiedAt
namespace Go.Proofs.YthlegnipdaikgaaDoor
open Go Go.ChangeShapes Go.WideShapes Go.ChangeAt Go.RowKit
set_option linter.unusedVariables false

theorem k_own : ownKnob Tryd.prog.godebug = none := by kernel_rfl
theorem k_laid : laidOutB Tryd.prog = true := by kernel_rfl

noncomputable def world0 (os : Os) : World := World.laidAll Tryd.prog os Rows.litmusSplitsUptoRow.laid
theorem laid_met (os : Os) (args : Array Value) : laidMet Tryd.prog Rows.litmusSplitsUptoRow.laid ((world0 os).forCall (fun _ _ => 0) ⟨#[], args, []⟩).memory :=
  laidMet_laidAll _ (by kernel_rfl) (by kernel_rfl)
theorem reads (os : Os) {H : Type} (enc : TypeId × Value → H) : ∃ places, DataW.whole enc Tryd.prog ((world0 os).forCall (fun _ _ => 0) ⟨#[], #[.string ByteArray.empty], []⟩).memory Tryd.f3.params.toList Rows.litmusSplitsSpec.vars false #[Value.string ByteArray.empty].toList 8 = some ([.lit (.string [])], [], places) :=
  ⟨[], by kernel_rfl⟩
set_option maxRecDepth 100000 in
set_option maxHeartbeats 4000000 in
theorem lifted (os : Os) (started : os.Started) (H : Type) (enc : TypeId × Value → H) (F : Stop.Interp) :
    ReturnsInHanded {} Tryd.checked os 3 .any ((Rows.OpenSpec.upto Rows.litmusSplitsSpec).preRow enc Tryd.prog Tryd.f3 Rows.litmusSplitsUptoRow.domain false Rows.litmusSplitsUptoRow.laid) (((Rows.OpenSpec.upto Rows.litmusSplitsSpec).at F).post enc Tryd.prog Tryd.f3 false true false false) := by
  obtain ⟨places, hx⟩ := reads os enc
  refine returnsInHanded_of_row (C := Tryd.checked) (s := Rows.OpenSpec.upto Rows.litmusSplitsSpec) k_own started (by kernel_rfl) Tryd.func3
    (witness_row_at (enc := enc) (C := Tryd.checked) false (world0 os) #[.string ByteArray.empty] (World.laidAll_os _ _ _) (by kernel_rfl) (by kernel_rfl) (by kernel_rfl)
      (OpenSpec.preRow_of_cond 8 hx (by kernel_rfl) (fun k hk => by cases hk; kernel_rfl) (by kernel_rfl) (laid_met os _))) ?_
  intro W base args ds gs before hval0 hW _ hcond hsz0 hL _ _
  have hval : ∀ (j : Nat) t v, Tryd.f3.params[j]? = some t → args[j]? = some v → Value.okWide Tryd.prog W .any base t v := hval0
  have hW' := hW
  obtain ⟨p, q, hA0, hV, rfl, _, _⟩ := hW
  have hA : DataW.TrodAll enc Tryd.prog W 0 (fun _ => true) true Tryd.f3.params.toList args.toList ds p := hA0
  rw [Tryd.params3] at hA hval
  obtain ⟨v0, vs0, d0, ds0, p0, q0, hargs0, rfl, rfl, h0, r0⟩ := trodAll_cons hA
  obtain ⟨rfl, rfl, rfl⟩ := trodAll_nil r0
  obtain rfl : args = #[v0] := by cases args; simp_all
  obtain ⟨rfl, rfl⟩ := trodVars_none hV
  obtain ⟨y0, rfl, rfl, rfl, _⟩ := Go.ChangeMaps.open_string Tryd.underlying9 (hval 0 9 v0 rfl rfl) h0
  have hb := hcond _ rfl
  have hsize : y0.size ≤ 1048576 := by
    have h2 : decide (Rows.uptoBulkAll [DataW.lit (H := H) (.string y0.data.toList)] ≤ 1048576) = true := hb
    have h3 := of_decide_eq_true h2
    simp only [Rows.uptoBulkAll, Rows.uptoBulk] at h3
    have h4 : y0.data.toList.length = y0.size := by simp
    omega
  have hlaw := K.split_law y0 hsize
  refine (K.weirlaw07_LitmusSplits.ok y0 (K.St.start W) ⟨fun m => m⟩ hlaw).mono fun e W' hh => ?_
  obtain ⟨rfl, hS⟩ := hh
  exact ⟨_, rfl, K.law_post (tb := 4) k_laid (by kernel_rfl) hW' rfl hS.fr rfl rfl Tryd.underlying4⟩

theorem row_holds : Rows.LitmusSplitsUptoSaid :=
  OpenClaim.holds_of_cond 3 Tryd.f3 rfl rfl rfl rfl rfl rfl rfl ⟨rfl, rfl, rfl, rfl, rfl⟩ rfl rfl rfl rfl rfl (by kernel_rfl) Tryd.func3 (by kernel_rfl)
    (of_decide_eq_true (by kernel_rfl)) (by unfold Func.isWrapper; first | (rw [if_pos (by decide +kernel)]; kernel_rfl) | (rw [if_neg (by decide +kernel)]; exact ⟨rfl, rfl⟩))
    (fun os started H enc _ F => by rw [OpenClaim.pre_eq_preRow]; exact lifted os started H enc F)

theorem holds : Rows.LitmusSplitsUptoCardSaid :=
  Claim7.holds_tied_plain_at .later [] [.data, .pinned] true (true, "b668a08bc745aa6205ebd66850332e9fd76aef086a1d7c60b4b122e3a858245d") false
    row_holds (fun _ h => by cases h) (by kernel_rfl) (fun _ h => by cases h) litmusSplitsUpto_row_tie rfl ⟨rfl, rfl⟩ (by kernel_rfl) rfl
    (fun f fn hf hfn => by
      obtain rfl : f = 3 := Option.some.inj ((show Tryd.prog.funcNamed Rows.litmusSplitsUptoRow.func = some 3 by kernel_rfl).symm.trans hf) |>.symm
      obtain rfl : fn = Tryd.f3 := (Option.some.inj (Tryd.func3.symm.trans hfn)).symm
      exact ⟨by kernel_rfl, fun j t ht => by
        have hm : t ∈ Tryd.f3.params := Array.mem_of_getElem? ht
        have hall : Tryd.f3.params.all (fun t => Tryd.prog.wantsStandIn t == false) = true := by kernel_rfl
        have hz : Tryd.prog.wantsStandIn t = false := by simpa using Array.all_eq_true'.1 hall t hm
        exact hz⟩)
    (by kernel_rfl)

#print axioms holds
end Go.Proofs.YthlegnipdaikgaaDoor
