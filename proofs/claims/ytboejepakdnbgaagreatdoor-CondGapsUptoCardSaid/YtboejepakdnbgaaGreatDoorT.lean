/- weirlaw.CondGaps: whatever the input, the call returns true and the arguments read as they did; where what it reads is of bulk at most 1048576. No other condition. -/
import Derived.Test.YtboejepakdnbgaaGreatDoorRows
import Derived.Test.YtboejepakdnbgaaGreatDoorXZ
import Derived.Test.YtboejepakdnbgaaGreatDoorTJ
import Derived.Test.YtboejepakdnbgaaGreatDoorNU
import Derived.SizedLaws
import Derived.Deep.DeepHandedRow
import Derived.ChangeMaps5
import Derived.Test.YtboejepakdnbgaaGreatDoorTie
import Derived.Test.YtboejepakdnbgaaGreatDoorCards
import Derived.ProofKit
import Derived.LaidMore
import Derived.LaidHandle
import Derived.Lay
import Derived.OpenShut
import Derived.Stop.Joined
import Derived.Stop.LaidErr
import Derived.Shelf.Vars
import Derived.SevenTiedAt
namespace Go.Proofs.YtboejepakdnbgaaGreatDoor
open Go Go.ChangeShapes Go.WideShapes Go.ChangeAt Go.RowKit
set_option linter.unusedVariables false

theorem k_own : ownKnob Tryz.prog.godebug = none := by kernel_rfl
theorem k_laid : laidOutB Tryz.prog = true := by kernel_rfl

abbrev laidL : List (String × DataW Unit) := Rows.condGapsUptoRow.laid
abbrev laidD : List (String × DataW Unit) := laidL.filter fun x => x.2.handleName?.isNone
noncomputable def world0 (os : Os) : World := World.laidAll Tryz.prog os Rows.condGapsUptoRow.laid
theorem laid_met (os : Os) (args : Array Value) : laidMet Tryz.prog Rows.condGapsUptoRow.laid ((world0 os).forCall (fun _ _ => 0) ⟨#[], args, []⟩).memory :=
  laidMet_laidAll _ (by kernel_rfl) (by kernel_rfl)
theorem reads (os : Os) {H : Type} (enc : TypeId × Value → H) : ∃ places, DataW.whole enc Tryz.prog ((world0 os).forCall (fun _ _ => 0) ⟨#[], #[.slice none 0 0, .slice none 0 0], []⟩).memory Tryz.f6.params.toList Rows.condGapsSpec.vars false #[Value.slice none 0 0, Value.slice none 0 0].toList 8 = some ([.nil, .nil], [], places) :=
  ⟨[], by kernel_rfl⟩
theorem laid_tail {P : Program} {w : World} {x : String × DataW Unit} {l : List (String × DataW Unit)} {ps : List MemPlace} (h : DataW.LaidVars P w (x :: l) ps) : ∃ q, DataW.LaidVars P w l q := by
  obtain ⟨g, t, cs, fuel, p, q, _, _, _, _, h, _⟩ := h
  exact ⟨q, h⟩
theorem tab_of {P : Program} {W : World} {name : String} {k : IntKind} {zs : List Int} {rest : List (String × DataW Unit)} {g : Nat} {t e : TypeId} {n : Nat} {ps : List MemPlace}
    (hg : P.globalNamed name = some g) (hty : (P.globals[g]?).map (·.type) = some t) (ht : P.underlying t = some (.array n e)) (he : P.underlying e = some (.int k)) (hce : P.cellsOf e = 1) (hct : P.cellsOf t = n)
    (h : DataW.LaidVars P W ((name, Lib.tabData k zs) :: rest) ps) : Lib.TabIs P W name k zs := by
  obtain ⟨g', t', cs, fuel, p, q, hg', ht', hvar, hd, _, _⟩ := h
  obtain rfl := Option.some.inj (hg.symm.trans hg')
  obtain rfl := Option.some.inj (hty.symm.trans ht')
  unfold Lib.TabIs
  rw [hvar, ← Lib.cells_of_tab ht he hce hct hd]
theorem env_of {W : World} (h : laidMet Tryz.prog laidL W) : K.Env (K.Zold W) := by
  obtain ⟨ps, h0'', -, -⟩ := h
  have h0 : DataW.LaidVars Tryz.prog W laidD ps := by rw [show laidD = laidL from by kernel_rfl]; exact h0''
  have h0 : ∃ q, DataW.LaidVars Tryz.prog W (laidD.drop 0) q := ⟨_, h0⟩
  have h1 : ∃ q, DataW.LaidVars Tryz.prog W (laidD.drop 1) q := laid_tail h0.choose_spec
  have h2 : ∃ q, DataW.LaidVars Tryz.prog W (laidD.drop 2) q := laid_tail h1.choose_spec
  obtain ⟨q2, k2⟩ := h2
  rw [show laidD.drop 2 = ("internal/strconv.uint64pow10", Lib.tabData .u64 Lib.pow10Tab) :: laidD.drop 3 from by kernel_rfl] at k2
  have t0 : Lib.TabIs Tryz.prog W "internal/strconv.uint64pow10" .u64 Lib.pow10Tab := tab_of (t := 251) (e := 191) (n := Lib.pow10Tab.length) rfl rfl Tryz.underlying251 Tryz.underlying191 (by kernel_rfl) (by kernel_rfl) k2
  exact ⟨fun m => m, K.Tz.of t0⟩
theorem k_sl : K.slB Tryz.prog 4096 = true := by kernel_rfl
theorem k_ts : (Tryz.f6.params.toList ++ Rows.condGapsSpec.plain.varTypes Tryz.prog).all (fun t => decide (t < Tryz.prog.types.size)) = true := by kernel_rfl
set_option maxRecDepth 100000 in
set_option maxHeartbeats 4000000 in
theorem lifted (os : Os) (started : os.Started) (H : Type) (enc : TypeId × Value → H) (F : Stop.Interp) :
    ReturnsInHanded {} Tryz.checked os 6 .any ((Rows.OpenSpec.upto Rows.condGapsSpec).preRow enc Tryz.prog Tryz.f6 Rows.condGapsUptoRow.domain false Rows.condGapsUptoRow.laid) (((Rows.OpenSpec.upto Rows.condGapsSpec).at F).post enc Tryz.prog Tryz.f6 false true false false) := by
  obtain ⟨places, hx⟩ := reads os enc
  refine returnsInHanded_of_row (C := Tryz.checked) (s := Rows.OpenSpec.upto Rows.condGapsSpec) k_own started (by kernel_rfl) Tryz.func6
    (witness_row_at (enc := enc) (C := Tryz.checked) false (world0 os) #[.slice none 0 0, .slice none 0 0] (World.laidAll_os _ _ _) (by kernel_rfl) (by kernel_rfl) (by kernel_rfl)
      (OpenSpec.preRow_of_cond 8 hx (by kernel_rfl) (fun k hk => by cases hk; kernel_rfl) (by kernel_rfl) (laid_met os _))) ?_
  intro W base args ds gs before hval0 hW _ hcond hsz0 hL _ _
  have hsz : (DataW.weightsEach Tryz.prog (Tryz.f6.params.toList ++ Rows.condGapsSpec.plain.varTypes Tryz.prog) (ds ++ gs)).all (· ≤ K.bnd) = true := K.small_weights k_sl k_ts (hcond _ rfl)
  have hval : ∀ (j : Nat) t v, Tryz.f6.params[j]? = some t → args[j]? = some v → Value.okWide Tryz.prog W .any base t v := hval0
  have hW' := hW
  obtain ⟨p, q, hA0, hV, rfl, _, _⟩ := hW
  have hA : DataW.TrodAll enc Tryz.prog W 0 (fun _ => true) true Tryz.f6.params.toList args.toList ds p := hA0
  rw [Tryz.params6] at hA hval hsz
  obtain ⟨v0, vs0, d0, ds0, p0, q0, hargs0, rfl, rfl, h0, r0⟩ := trodAll_cons hA
  obtain ⟨v1, vs1, d1, ds1, p1, q1, hargs1, rfl, rfl, h1, r1⟩ := trodAll_cons r0
  obtain ⟨rfl, rfl, rfl⟩ := trodAll_nil r1
  obtain rfl : args = #[v0, v1] := by cases args; simp_all
  obtain ⟨rfl, rfl⟩ := trodVars_none hV
  obtain ⟨fuel0, hf0⟩ := h0
  obtain ⟨y0, hr0, hok0, -⟩ := (K.opens_sl (P := Tryz.prog) (t := 23) (e := 68) (sz := 6) (bytes := 56) K.opens_api_Node (by kernel_rfl) (by kernel_rfl) (by decide) (by kernel_rfl) (by kernel_rfl)) enc W _ _ _ _ _ hf0 (fun k hk => by have := List.all_eq_true.1 hsz k (DataW.weights_mem_each (j := 0) (t := 23) rfl rfl k hk); simpa using this)
  obtain ⟨a0, len0, cap0, rfl⟩ := okWide_slice Tryz.underlying23 (hval 0 23 v0 rfl rfl)
  obtain ⟨A0, c0, hc0, hs0⟩ := hr0
  obtain ⟨rfl, rfl, rfl⟩ : a0 = A0 ∧ len0 = y0.length ∧ cap0 = c0 := by simpa [Value.cells] using hc0
  obtain ⟨fuel1, hf1⟩ := h1
  obtain ⟨y1, hr1, hok1, -⟩ := (K.opens_sl (P := Tryz.prog) (t := 53) (e := 75) (sz := 7) (bytes := 64) K.opens_api_Token (by kernel_rfl) (by kernel_rfl) (by decide) (by kernel_rfl) (by kernel_rfl)) enc W _ _ _ _ _ hf1 (fun k hk => by have := List.all_eq_true.1 hsz k (DataW.weights_mem_each (j := 1) (t := 53) rfl rfl k hk); simpa using this)
  obtain ⟨a1, len1, cap1, rfl⟩ := okWide_slice Tryz.underlying53 (hval 1 53 v1 rfl rfl)
  obtain ⟨A1, c1, hc1, hs1⟩ := hr1
  obtain ⟨rfl, rfl, rfl⟩ : a1 = A1 ∧ len1 = y1.length ∧ cap1 = c1 := by simpa [Value.cells] using hc1
  have hlaw := K.law1 y0 y1 hok0 hok1
  refine (K.weirlaw06_CondGaps.ok y0 y1 _ _ _ _ (K.St.start W) hs0 hs1 (env_of hL) hlaw).mono fun e W' hh => ?_
  obtain ⟨rfl, hS⟩ := hh
  exact ⟨_, rfl, K.law_post (tb := 4) k_laid (by kernel_rfl) hW' rfl hS.fr rfl rfl Tryz.underlying4⟩

theorem row_holds : Rows.CondGapsUptoSaid :=
  OpenClaim.holds_of_cond 6 Tryz.f6 rfl rfl rfl rfl rfl rfl rfl ⟨rfl, rfl, rfl, rfl, rfl⟩ rfl rfl rfl rfl rfl (by kernel_rfl) Tryz.func6 (by kernel_rfl)
    (of_decide_eq_true (by kernel_rfl)) (by unfold Func.isWrapper; first | (rw [if_pos (by decide +kernel)]; kernel_rfl) | (rw [if_neg (by decide +kernel)]; exact ⟨rfl, rfl⟩))
    (fun os started H enc _ F => by rw [OpenClaim.pre_eq_preRow]; exact lifted os started H enc F)

theorem holds : Rows.CondGapsUptoCardSaid :=
  Claim7.holds_tied_plain_at .later [] [.data, .data, .data, .data, .sentinel, .sentinel, .pinned] true (true, "8d1b85d9e0cbffa6a197e66f4f75020d8c793e4addca5929d0718e43e4fab006") true
    row_holds (fun _ h => by cases h) (by kernel_rfl) (fun _ h => by cases h) condGapsUpto_row_tie rfl ⟨rfl, rfl⟩ (by kernel_rfl) rfl
    (fun f fn hf hfn => by
      obtain rfl : f = 6 := Option.some.inj ((show Tryz.prog.funcNamed Rows.condGapsUptoRow.func = some 6 by kernel_rfl).symm.trans hf) |>.symm
      obtain rfl : fn = Tryz.f6 := (Option.some.inj (Tryz.func6.symm.trans hfn)).symm
      exact ⟨by kernel_rfl, fun j t ht => by
        have hm : t ∈ Tryz.f6.params := Array.mem_of_getElem? ht
        have hall : Tryz.f6.params.all (fun t => Tryz.prog.wantsStandIn t == false) = true := by kernel_rfl
        have hz : Tryz.prog.wantsStandIn t = false := by simpa using Array.all_eq_true'.1 hall t hm
        exact hz⟩)
    (by kernel_rfl)

#print axioms holds
end Go.Proofs.YtboejepakdnbgaaGreatDoor
