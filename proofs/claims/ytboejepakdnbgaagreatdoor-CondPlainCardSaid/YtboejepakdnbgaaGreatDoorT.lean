/- weirlaw.CondPlain: whatever the input, the call returns true and the arguments read as they did. No condition. -/
import Derived.Test.YtboejepakdnbgaaGreatDoorRows
import Derived.Test.YtboejepakdnbgaaGreatDoorV4
import Derived.Test.YtboejepakdnbgaaGreatDoorTR
import Derived.SizedLaws
import Derived.Test.YtboejepakdnbgaaGreatDoorTie
import Derived.Test.YtboejepakdnbgaaGreatDoorCards
import Derived.ProofKit
import Derived.LaidMore
import Derived.LaidHandle
import Derived.Lay
import Derived.OpenShut
import Derived.Stop.Joined
import Derived.Stop.LaidErr
import Derived.Shelf.Vars
import Derived.SevenTiedAt
namespace Go.Proofs.YtboejepakdnbgaaGreatDoor
open Go Go.ChangeShapes Go.WideShapes Go.ChangeAt Go.RowKit
set_option linter.unusedVariables false

theorem k_own : ownKnob Tryz.prog.godebug = none := by kernel_rfl
theorem k_laid : laidOutB Tryz.prog = true := by kernel_rfl

abbrev laidL : List (String × DataW Unit) := Rows.condPlainRow.laid
abbrev laidD : List (String × DataW Unit) := laidL.filter fun x => x.2.handleName?.isNone
noncomputable def worldH (os : Os) : World := World.holding Tryz.prog os ⟨#[], #[], []⟩
noncomputable def world0 (os : Os) : World := (worldH os).layVars Tryz.prog laidD
theorem data_met (os : Os) (args : Array Value) : laidMet Tryz.prog laidD ((world0 os).forCall (fun _ _ => 0) ⟨#[], args, []⟩).memory := by
  have e1 : (laidD.filter fun x => (laidD.map (·.1)).contains x.1) = laidD := List.filter_eq_self.2 fun x hx => List.contains_iff_mem.2 (List.mem_map.2 ⟨x, hx, rfl⟩)
  have e2 : (laidD.filter fun x => !(laidD.map (·.1)).contains x.1) = [] := List.filter_eq_nil_iff.2 fun x hx => by rw [List.contains_iff_mem.2 (List.mem_map.2 ⟨x, hx, rfl⟩)]; simp
  have h : laidMet Tryz.prog laidD (world0 os) := laidMet_layVars (w0 := worldH os) (laidD.map (·.1)) [] (by rw [e1]; rfl) (by rw [e1]; kernel_rfl) (by rw [e1]; kernel_rfl) (by rw [e2]; exact LaidIn.none)
  exact h.of_heap (by simp [World.memory, World.forCall, Input.heap])
theorem start_met (os : Os) (args : Array Value) : laidMetH Tryz.prog laidL ((world0 os).forCall (fun _ _ => 0) ⟨#[], args, []⟩).memory :=
  laidMetH_of_parts (data_met os args) (by kernel_rfl)
theorem laid_tail {P : Program} {w : World} {x : String × DataW Unit} {l : List (String × DataW Unit)} {ps : List MemPlace} (h : DataW.LaidVars P w (x :: l) ps) : ∃ q, DataW.LaidVars P w l q := by
  obtain ⟨g, t, cs, fuel, p, q, _, _, _, _, h, _⟩ := h
  exact ⟨q, h⟩
theorem tab_of {P : Program} {W : World} {name : String} {k : IntKind} {zs : List Int} {rest : List (String × DataW Unit)} {g : Nat} {t e : TypeId} {n : Nat} {ps : List MemPlace}
    (hg : P.globalNamed name = some g) (hty : (P.globals[g]?).map (·.type) = some t) (ht : P.underlying t = some (.array n e)) (he : P.underlying e = some (.int k)) (hce : P.cellsOf e = 1) (hct : P.cellsOf t = n)
    (h : DataW.LaidVars P W ((name, Lib.tabData k zs) :: rest) ps) : Lib.TabIs P W name k zs := by
  obtain ⟨g', t', cs, fuel, p, q, hg', ht', hvar, hd, _, _⟩ := h
  obtain rfl := Option.some.inj (hg.symm.trans hg')
  obtain rfl := Option.some.inj (hty.symm.trans ht')
  unfold Lib.TabIs
  rw [hvar, ← Lib.cells_of_tab ht he hce hct hd]
theorem env_of {W : World} (h : laidMetH Tryz.prog laidL W) : K.Env (K.Zold W) := by
  have hp := h
  rw [MakeChecks.laidMetH_plain _ _ _ (by kernel_rfl)] at hp
  obtain ⟨ps, h0'', -, -⟩ := hp
  have h0 : DataW.LaidVars Tryz.prog W laidD ps := by rw [show laidD = laidL from by kernel_rfl]; exact h0''
  have h0 : ∃ q, DataW.LaidVars Tryz.prog W (laidD.drop 0) q := ⟨_, h0⟩
  have h1 : ∃ q, DataW.LaidVars Tryz.prog W (laidD.drop 1) q := laid_tail h0.choose_spec
  have h2 : ∃ q, DataW.LaidVars Tryz.prog W (laidD.drop 2) q := laid_tail h1.choose_spec
  obtain ⟨q2, k2⟩ := h2
  rw [show laidD.drop 2 = ("internal/strconv.uint64pow10", Lib.tabData .u64 Lib.pow10Tab) :: laidD.drop 3 from by kernel_rfl] at k2
  have t0 : Lib.TabIs Tryz.prog W "internal/strconv.uint64pow10" .u64 Lib.pow10Tab := tab_of (t := 251) (e := 191) (n := Lib.pow10Tab.length) rfl rfl Tryz.underlying251 Tryz.underlying191 (by kernel_rfl) (by kernel_rfl) k2
  exact ⟨fun m => m, K.Tz.of t0⟩
set_option maxRecDepth 100000 in
set_option maxHeartbeats 4000000 in
theorem lifted (os : Os) (started : os.Started) (H : Type) (enc : TypeId × Value → H) :
    ReturnsInHanded {} Tryz.checked os 7 .any (fun w args => (Rows.condPlainSpec.pre enc Tryz.prog Tryz.f7 [] false w args ∧ laidMetH Tryz.prog laidL w) ∧ sizedMet enc Tryz.prog Tryz.f7 (OpenSpec.ofChange Rows.condPlainSpec) false w args) (Rows.condPlainSpec.post enc Tryz.prog Tryz.f7 false true false false) := by
  refine returnsInHanded_of_change_and (C := Tryz.checked) (X := fun w _ => laidMetH Tryz.prog laidL w) (fun _ _ _ hh h => h.of_heap hh) k_own started (by kernel_rfl) Tryz.func7
    (ChangeSpec.witness_shaped (enc := enc) (C := Tryz.checked) (os := os) (X := fun w _ => laidMetH Tryz.prog laidL w) false (world0 os) #[.slice none 0 0, .agg #[.slice none 0 0, .slice none 0 0, .int .i64 0]] 8 (World.layVars_os _ _ _) (World.shaped_of_ZipB (by kernel_rfl) (by kernel_rfl)) (by kernel_rfl) (by kernel_rfl) (by kernel_rfl) (start_met os _)) ?_
  intro W base args ds gs before hval0 hW _ hsz0 hL _
  have hsz : (DataW.weightsEach Tryz.prog (Tryz.f7.params.toList ++ Rows.condPlainSpec.plain.varTypes Tryz.prog) (ds ++ gs)).all (· ≤ reachBytes) = true := hsz0
  clear hsz0
  have hval : ∀ (j : Nat) t v, Tryz.f7.params[j]? = some t → args[j]? = some v → Value.okWide Tryz.prog W .any base t v := hval0
  have hW' := hW
  obtain ⟨p, q, hA0, hV, rfl, _, _⟩ := hW
  have hA : DataW.TrodAll enc Tryz.prog W 0 (fun _ => true) true Tryz.f7.params.toList args.toList ds p := hA0
  rw [Tryz.params7] at hA hval hsz
  obtain ⟨v0, vs0, d0, ds0, p0, q0, hargs0, rfl, rfl, h0, r0⟩ := trodAll_cons hA
  obtain ⟨v1, vs1, d1, ds1, p1, q1, hargs1, rfl, rfl, h1, r1⟩ := trodAll_cons r0
  obtain ⟨rfl, rfl, rfl⟩ := trodAll_nil r1
  obtain rfl : args = #[v0, v1] := by cases args; simp_all
  obtain ⟨rfl, rfl⟩ := trodVars_none hV
  obtain ⟨fuel0, hf0⟩ := h0
  obtain ⟨y0, hr0, hok0, -⟩ := (K.opens_sl (P := Tryz.prog) (t := 23) (e := 68) (sz := 6) (bytes := 56) K.opens_api_Node (by kernel_rfl) (by kernel_rfl) (by decide) (by kernel_rfl) (by kernel_rfl)) enc W _ _ _ _ _ hf0 (fun k hk => by have := List.all_eq_true.1 hsz k (DataW.weights_mem_each (j := 0) (t := 23) rfl rfl k hk); simpa using this)
  obtain ⟨a0, len0, cap0, rfl⟩ := okWide_slice Tryz.underlying23 (hval 0 23 v0 rfl rfl)
  obtain ⟨A0, c0, hc0, hs0⟩ := hr0
  obtain ⟨rfl, rfl, rfl⟩ : a0 = A0 ∧ len0 = y0.length ∧ cap0 = c0 := by simpa [Value.cells] using hc0
  obtain ⟨fuel1, hf1⟩ := h1
  obtain ⟨y1, hr1, hok1, -⟩ := K.opens_weirlaw06_Set enc W _ _ _ _ _ hf1 (fun k hk => by have := List.all_eq_true.1 hsz k (DataW.weights_mem_each (j := 1) (t := 46) rfl rfl k hk); simpa using this)
  obtain ⟨cs1, rfl, hcs1⟩ := okWide_struct (fs := Tryz.prog.fieldsOf 46) (by kernel_rfl) (hval 1 46 v1 rfl rfl)
  obtain ⟨A1_0, c1_0, A1_1, c1_1, hc1, hs1_0, hs1_1⟩ := hr1
  obtain rfl : cs1 = ([.slice A1_0 y1.Refs.length c1_0] ++ [.slice A1_1 y1.Values.length c1_1] ++ (K.encI .i64) y1.Rest : List Value).toArray := by have : cs1.toList = ([.slice A1_0 y1.Refs.length c1_0] ++ [.slice A1_1 y1.Values.length c1_1] ++ (K.encI .i64) y1.Rest : List Value) := hc1; rw [← this]
  have hlaw := K.law2 y0 y1 hok0 hok1
  refine (K.weirlaw06_CondPlain.ok y0 y1 _ _ _ _ _ _ (K.St.start W) hs0 hs1_0 hs1_1 (env_of hL) hlaw).mono fun e W' hh => ?_
  obtain ⟨rfl, hS⟩ := hh
  exact ⟨_, rfl, K.law_post (tb := 4) k_laid (by kernel_rfl) hW' rfl hS.fr rfl rfl Tryz.underlying4⟩

theorem row_holds : Rows.CondPlainSaid :=
  OpenClaim.holds_of_wide 7 Tryz.f7 rfl rfl rfl rfl rfl rfl rfl ⟨rfl, rfl, rfl, rfl, rfl⟩ rfl rfl rfl rfl rfl (by kernel_rfl) Tryz.func7 (by kernel_rfl)
    (of_decide_eq_true (by kernel_rfl)) (by unfold Func.isWrapper; first | (rw [if_pos (by decide +kernel)]; kernel_rfl) | (rw [if_neg (by decide +kernel)]; exact ⟨rfl, rfl⟩))
    (fun os started H enc _ => lifted os started H enc)

theorem holds : Rows.CondPlainCardSaid :=
  Claim7.holds_tied_plain_at .later [] [.data, .data, .data, .data, .sentinel, .sentinel, .pinned] true (true, "8d1b85d9e0cbffa6a197e66f4f75020d8c793e4addca5929d0718e43e4fab006") true
    row_holds (fun _ h => by cases h) (by kernel_rfl) (fun _ h => by cases h) condPlain_row_tie rfl ⟨rfl, rfl⟩ (by kernel_rfl) rfl
    (fun f fn hf hfn => by
      obtain rfl : f = 7 := Option.some.inj ((show Tryz.prog.funcNamed Rows.condPlainRow.func = some 7 by kernel_rfl).symm.trans hf) |>.symm
      obtain rfl : fn = Tryz.f7 := (Option.some.inj (Tryz.func7.symm.trans hfn)).symm
      exact ⟨by kernel_rfl, fun j t ht => by
        have hm : t ∈ Tryz.f7.params := Array.mem_of_getElem? ht
        have hall : Tryz.f7.params.all (fun t => Tryz.prog.wantsStandIn t == false) = true := by kernel_rfl
        have hz : Tryz.prog.wantsStandIn t = false := by simpa using Array.all_eq_true'.1 hall t hm
        exact hz⟩)
    (by kernel_rfl)

#print axioms holds
end Go.Proofs.YtboejepakdnbgaaGreatDoor
