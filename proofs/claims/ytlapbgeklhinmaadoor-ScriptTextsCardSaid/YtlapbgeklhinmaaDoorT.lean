/- weirlaw.ScriptTexts: whatever the input, the call returns true and the arguments read as they did. No condition. -/
import Derived.Test.YtlapbgeklhinmaaDoorRows
import Derived.Test.YtlapbgeklhinmaaDoorSD
import Derived.SizedLaws
import Derived.Test.YtlapbgeklhinmaaDoorTie
import Derived.Test.YtlapbgeklhinmaaDoorCards
import Derived.ProofKit
import Derived.LaidMore
import Derived.LaidHandle
import Derived.Lay
import Derived.OpenShut
import Derived.Stop.Joined
import Derived.Stop.LaidErr
import Derived.Shelf.Vars
import Derived.SevenTiedAt
namespace Go.Proofs.YtlapbgeklhinmaaDoor
open Go Go.ChangeShapes Go.WideShapes Go.ChangeAt Go.RowKit
set_option linter.unusedVariables false

theorem k_own : ownKnob Tryd.prog.godebug = none := by kernel_rfl
theorem k_laid : laidOutB Tryd.prog = true := by kernel_rfl

abbrev laidL : List (String × DataW Unit) := Rows.scriptTextsRow.laid
abbrev laidD : List (String × DataW Unit) := laidL.filter fun x => x.2.handleName?.isNone
noncomputable def worldH (os : Os) : World := World.holding Tryd.prog os ⟨#[], #[], []⟩
noncomputable def world0 (os : Os) : World := (worldH os).layVars Tryd.prog laidD
theorem data_met (os : Os) (args : Array Value) : laidMet Tryd.prog laidD ((world0 os).forCall (fun _ _ => 0) ⟨#[], args, []⟩).memory := by
  have e1 : (laidD.filter fun x => (laidD.map (·.1)).contains x.1) = laidD := List.filter_eq_self.2 fun x hx => List.contains_iff_mem.2 (List.mem_map.2 ⟨x, hx, rfl⟩)
  have e2 : (laidD.filter fun x => !(laidD.map (·.1)).contains x.1) = [] := List.filter_eq_nil_iff.2 fun x hx => by rw [List.contains_iff_mem.2 (List.mem_map.2 ⟨x, hx, rfl⟩)]; simp
  have h : laidMet Tryd.prog laidD (world0 os) := laidMet_layVars (w0 := worldH os) (laidD.map (·.1)) [] (by rw [e1]; rfl) (by rw [e1]; kernel_rfl) (by rw [e1]; kernel_rfl) (by rw [e2]; exact LaidIn.none)
  exact h.of_heap (by simp [World.memory, World.forCall, Input.heap])
theorem start_met (os : Os) (args : Array Value) : laidMetH Tryd.prog laidL ((world0 os).forCall (fun _ _ => 0) ⟨#[], args, []⟩).memory :=
  laidMetH_of_parts (data_met os args) (by kernel_rfl)
theorem laid_tail {P : Program} {w : World} {x : String × DataW Unit} {l : List (String × DataW Unit)} {ps : List MemPlace} (h : DataW.LaidVars P w (x :: l) ps) : ∃ q, DataW.LaidVars P w l q := by
  obtain ⟨g, t, cs, fuel, p, q, _, _, _, _, h, _⟩ := h
  exact ⟨q, h⟩
theorem tab_of {P : Program} {W : World} {name : String} {k : IntKind} {zs : List Int} {rest : List (String × DataW Unit)} {g : Nat} {t e : TypeId} {n : Nat} {ps : List MemPlace}
    (hg : P.globalNamed name = some g) (hty : (P.globals[g]?).map (·.type) = some t) (ht : P.underlying t = some (.array n e)) (he : P.underlying e = some (.int k)) (hce : P.cellsOf e = 1) (hct : P.cellsOf t = n)
    (h : DataW.LaidVars P W ((name, Lib.tabData k zs) :: rest) ps) : Lib.TabIs P W name k zs := by
  obtain ⟨g', t', cs, fuel, p, q, hg', ht', hvar, hd, _, _⟩ := h
  obtain rfl := Option.some.inj (hg.symm.trans hg')
  obtain rfl := Option.some.inj (hty.symm.trans ht')
  unfold Lib.TabIs
  rw [hvar, ← Lib.cells_of_tab ht he hce hct hd]
theorem met_drop {P : Program} {W : World} {l : List (String × DataW Unit)} (h : laidMet P (l.drop 0) W) : ∀ q, laidMet P (l.drop q) W
  | 0 => h
  | q + 1 => by
    have := met_drop h q
    rw [show l.drop (q + 1) = (l.drop q).tail from by simp]
    cases hd : l.drop q with
    | nil => rw [hd] at this; exact this
    | cons x r => rw [hd] at this; exact this.tail
theorem env_of {W : World} (h : laidMetH Tryd.prog laidL W) (hsh : W.ShapedOpen Tryd.prog) : K.Env (K.Zold W) := by
  have hp := h
  rw [MakeChecks.laidMetH_plain _ _ _ (by kernel_rfl)] at hp
  have hp0 := hp
  obtain ⟨ps, h0'', -, -⟩ := hp
  have h0 : DataW.LaidVars Tryd.prog W laidD ps := by rw [show laidD = laidL from by kernel_rfl]; exact h0''
  have h0 : ∃ q, DataW.LaidVars Tryd.prog W (laidD.drop 0) q := ⟨_, h0⟩
  have h1 : ∃ q, DataW.LaidVars Tryd.prog W (laidD.drop 1) q := laid_tail h0.choose_spec
  have h2 : ∃ q, DataW.LaidVars Tryd.prog W (laidD.drop 2) q := laid_tail h1.choose_spec
  obtain ⟨q2, k2⟩ := h2
  rw [show laidD.drop 2 = ("internal/strconv.uint64pow10", Lib.tabData .u64 Lib.pow10Tab) :: laidD.drop 3 from by kernel_rfl] at k2
  have t0 : Lib.TabIs Tryd.prog W "internal/strconv.uint64pow10" .u64 Lib.pow10Tab := tab_of (t := 99) (e := 74) (n := Lib.pow10Tab.length) rfl rfl Tryd.underlying99 Tryd.underlying74 (by kernel_rfl) (by kernel_rfl) k2
  obtain ⟨m, hm⟩ := cell_of_shapedOpen_int (g := 0) (t := 3) (k := .i64) (zero := #[.int .i64 0]) hsh (of_decide_eq_true (by kernel_rfl)) (by kernel_rfl) rfl (by kernel_rfl) (by kernel_rfl) (by kernel_rfl)
  have m0 : laidMet Tryd.prog (laidD.drop 0) W := by rw [show laidD.drop 0 = laidL from by kernel_rfl]; exact hp0
  have m1 : laidMet Tryd.prog (laidD.drop 1) W := met_drop (l := laidD) m0 1
  have m2 : laidMet Tryd.prog (laidD.drop 2) W := met_drop (l := laidD) m0 2
  have m3 : laidMet Tryd.prog (laidD.drop 3) W := met_drop (l := laidD) m0 3
  have m4 : laidMet Tryd.prog (laidD.drop 4) W := met_drop (l := laidD) m0 4
  have m5 : laidMet Tryd.prog (laidD.drop 5) W := met_drop (l := laidD) m0 5
  have hrow : ∀ u, Tryd.prog.typeName? 3 u = some "*errors.errorString" → u = 120 := fun u hu => typeName_ptr_named (nm := "errors.errorString") (by rw [show "*" ++ "errors.errorString" = "*errors.errorString" from by decide]; kernel_rfl) (by kernel_rfl) (by decide) u (by rw [show "*" ++ "errors.errorString" = "*errors.errorString" from by decide]; exact hu)
  rw [show laidD.drop 5 = ("strconv.ErrSyntax", DataW.iface "*errors.errorString" (.ptr (.agg [.lit (.string [105, 110, 118, 97, 108, 105, 100, 32, 115, 121, 110, 116, 97, 120])]))) :: laidD.drop 6 from by kernel_rfl] at m5
  obtain ⟨a5, s5, hv5, -, -, -⟩ := laid_sentinel m5 (show Tryd.prog.globalNamed "strconv.ErrSyntax" = some 2 by kernel_rfl) (show (Tryd.prog.globals[2]?).map (·.type) = some 31 by kernel_rfl) Tryd.underlying31 hrow Tryd.underlying120 Tryd.underlying122 rfl rfl Tryd.underlying9 (by kernel_rfl) (by kernel_rfl)
  have hc5 : W.cell? ⟨2, 0, none⟩ = some (.iface 120 (.pointer (some a5))) := by simpa using World.var?_cell (show Tryd.prog.globalNamed "strconv.ErrSyntax" = some 2 by kernel_rfl) hv5 0
  rw [show laidD.drop 4 = ("strconv.ErrRange", DataW.iface "*errors.errorString" (.ptr (.agg [.lit (.string [118, 97, 108, 117, 101, 32, 111, 117, 116, 32, 111, 102, 32, 114, 97, 110, 103, 101])]))) :: laidD.drop 5 from by kernel_rfl] at m4
  obtain ⟨a4, s4, hv4, -, -, -⟩ := laid_sentinel m4 (show Tryd.prog.globalNamed "strconv.ErrRange" = some 3 by kernel_rfl) (show (Tryd.prog.globals[3]?).map (·.type) = some 31 by kernel_rfl) Tryd.underlying31 hrow Tryd.underlying120 Tryd.underlying122 rfl rfl Tryd.underlying9 (by kernel_rfl) (by kernel_rfl)
  have hc4 : W.cell? ⟨3, 0, none⟩ = some (.iface 120 (.pointer (some a4))) := by simpa using World.var?_cell (show Tryd.prog.globalNamed "strconv.ErrRange" = some 3 by kernel_rfl) hv4 0
  exact ⟨fun m => m, K.Tz.of t0, ⟨m, K.Gc.of hm⟩, ⟨_, _, K.Gc.of hc5⟩, ⟨_, _, K.Gc.of hc4⟩⟩
/-- From a walk that is told of the world's shape too to the row's contract. -/
theorem wrap_shape {H : Type} {enc : TypeId × Value → H} {a : Assume} {C : Checked} {os : Os} {f : FuncId} {fn : Func} {s : ChangeSpec} {conds : List PathCond} {apart fresh handsOn again : Bool} {X : World → Array Value → Prop}
    (hX : ∀ (w w' : World) (args : Array Value), w.heap = w'.heap → X w args → X w' args)
    (own : ownKnob C.prog.godebug = none) (started : os.Started) (noInit : C.prog.inits.idxOf? f = none) (hfn : C.prog.funcs[f]? = some fn)
    (witness : ∃ (w : World) (tape : Tape) (i : Input), w.os = os ∧ (w.forCall tape i).Shaped C.prog ∧ i.vars = [] ∧ Input.okWide C.prog (w.forCall tape i) .any w.heap.size f i ∧
      ((s.pre enc C.prog fn conds apart (w.forCall tape i).memory i.args ∧ X (w.forCall tape i).memory i.args) ∧ sizedMet enc C.prog fn (OpenSpec.ofChange s) apart (w.forCall tape i).memory i.args) ∧ a.holds C.prog (lone (Frame.enter C.prog f i.args .normal) [] (w.forCall tape i)))
    (walk : ∀ (W : World) (base : Nat) (args : Array Value) (ds gs : List (DataW H)) (before : List MemPlace),
      (∀ (j : Nat) t v, fn.params[j]? = some t → args[j]? = some v → Value.okWide C.prog W .any base t v) → DataW.Whole enc C.prog fn.params.toList s.vars apart W args.toList ds gs before →
      conds.all (PathCond.test C.prog ⟨fn.params.toList, ds, s.plain.varTypes C.prog, gs⟩) = true → (DataW.weightsEach C.prog (fn.params.toList ++ s.plain.varTypes C.prog) (ds ++ gs)).all (· ≤ reachBytes) = true →
      X W args → W.ShapedOpen C.prog → Calls C.prog f args W fun e W' => ∃ v, e = .returned v ∧ s.post enc C.prog fn apart fresh handsOn again W args v W') :
    ReturnsInHanded a C os f .any (fun w args => (s.pre enc C.prog fn conds apart w args ∧ X w args) ∧ sizedMet enc C.prog fn (OpenSpec.ofChange s) apart w args) (s.post enc C.prog fn apart fresh handsOn again) := by
  refine returnsInHanded_of_calls own started noInit witness fun w tape i _ hsh _ hok hpre _ => ?_
  obtain ⟨_, _, _, fn', hfn', _, _, _, _, hval⟩ := hok
  obtain rfl : fn' = fn := Option.some.inj (hfn'.symm.trans hfn)
  obtain ⟨⟨⟨ds, gs, before, hw, hc⟩, hx⟩, hz⟩ := hpre
  exact (walk (w.forCall tape i) w.heap.size i.args ds gs before hval (hw.of_heap (w' := w.forCall tape i) (by rfl)) hc (hz.weights hw) (hX _ _ _ (by rfl) hx) hsh).mono fun e W' ⟨v, he, hp⟩ => by
    subst he
    exact ChangeSpec.post_blind hp
set_option maxRecDepth 100000 in
set_option maxHeartbeats 4000000 in
theorem lifted (os : Os) (started : os.Started) (H : Type) (enc : TypeId × Value → H) :
    ReturnsInHanded {} Tryd.checked os 3 .any (fun w args => (Rows.scriptTextsSpec.pre enc Tryd.prog Tryd.f3 [] false w args ∧ laidMetH Tryd.prog laidL w) ∧ sizedMet enc Tryd.prog Tryd.f3 (OpenSpec.ofChange Rows.scriptTextsSpec) false w args) (Rows.scriptTextsSpec.post enc Tryd.prog Tryd.f3 false true false false) := by
  refine wrap_shape (C := Tryd.checked) (X := fun w _ => laidMetH Tryd.prog laidL w) (fun _ _ _ hh h => h.of_heap hh) k_own started (by kernel_rfl) Tryd.func3
    (ChangeSpec.witness_shaped (enc := enc) (C := Tryd.checked) (os := os) (X := fun w _ => laidMetH Tryd.prog laidL w) false (world0 os) #[.slice none 0 0, .string ByteArray.empty] 8 (World.layVars_os _ _ _) (World.shaped_of_ZipB (by kernel_rfl) (by kernel_rfl)) (by kernel_rfl) (by kernel_rfl) (by kernel_rfl) (start_met os _)) ?_
  intro W base args ds gs before hval0 hW _ hsz0 hL hsh
  have hsz : (DataW.weightsEach Tryd.prog (Tryd.f3.params.toList ++ Rows.scriptTextsSpec.plain.varTypes Tryd.prog) (ds ++ gs)).all (· ≤ reachBytes) = true := hsz0
  clear hsz0
  have hval : ∀ (j : Nat) t v, Tryd.f3.params[j]? = some t → args[j]? = some v → Value.okWide Tryd.prog W .any base t v := hval0
  have hW' := hW
  obtain ⟨p, q, hA0, hV, rfl, _, _⟩ := hW
  have hA : DataW.TrodAll enc Tryd.prog W 0 (fun _ => true) true Tryd.f3.params.toList args.toList ds p := hA0
  rw [Tryd.params3] at hA hval hsz
  obtain ⟨v0, vs0, d0, ds0, p0, q0, hargs0, rfl, rfl, h0, r0⟩ := trodAll_cons hA
  obtain ⟨v1, vs1, d1, ds1, p1, q1, hargs1, rfl, rfl, h1, r1⟩ := trodAll_cons r0
  obtain ⟨rfl, rfl, rfl⟩ := trodAll_nil r1
  obtain rfl : args = #[v0, v1] := by cases args; simp_all
  obtain ⟨rfl, rfl⟩ := trodVars_none hV
  obtain ⟨fuel0, hf0⟩ := h0
  obtain ⟨y0, hr0, hok0, -⟩ := (K.opens_sl (P := Tryd.prog) (t := 22) (e := 24) (sz := 3) (bytes := 24) K.opens_api_Pick (by kernel_rfl) (by kernel_rfl) (by decide) (by kernel_rfl) (by kernel_rfl)) enc W _ _ _ _ _ hf0 (fun k hk => by have := List.all_eq_true.1 hsz k (DataW.weights_mem_each (j := 0) (t := 22) rfl rfl k hk); simpa using this)
  obtain ⟨a0, len0, cap0, rfl⟩ := okWide_slice Tryd.underlying22 (hval 0 22 v0 rfl rfl)
  obtain ⟨A0, c0, hc0, hs0⟩ := hr0
  obtain ⟨rfl, rfl, rfl⟩ : a0 = A0 ∧ len0 = y0.length ∧ cap0 = c0 := by simpa [Value.cells] using hc0
  obtain ⟨fuel1, hf1⟩ := h1
  obtain ⟨y1, hr1, hok1, -⟩ := (K.opens_str (P := Tryd.prog) (t := 9) (by kernel_rfl) (by kernel_rfl)) enc W _ _ _ _ _ hf1 (fun k hk => by have := List.all_eq_true.1 hsz k (DataW.weights_mem_each (j := 1) (t := 9) rfl rfl k hk); simpa using this)
  obtain ⟨s1, rfl⟩ := okWide_string Tryd.underlying9 (hval 1 9 v1 rfl rfl)
  obtain rfl : y1 = s1 := by have : [Value.string s1] = [Value.string y1] := hr1; simpa using this.symm
  have hlaw := K.texts_law y0 y1 hok0 hok1
  refine (K.weirlaw15_ScriptTexts.ok y0 y1 _ _ (K.St.start W) hs0 (env_of hL hsh) hlaw).mono fun e W' hh => ?_
  obtain ⟨rfl, hS⟩ := hh
  exact ⟨_, rfl, K.law_post (tb := 4) k_laid (by kernel_rfl) hW' rfl hS.fr rfl rfl Tryd.underlying4⟩

theorem row_holds : Rows.ScriptTextsSaid :=
  OpenClaim.holds_of_wide 3 Tryd.f3 rfl rfl rfl rfl rfl rfl rfl ⟨rfl, rfl, rfl, rfl, rfl⟩ rfl rfl rfl rfl rfl (by kernel_rfl) Tryd.func3 (by kernel_rfl)
    (of_decide_eq_true (by kernel_rfl)) (by unfold Func.isWrapper; first | (rw [if_pos (by decide +kernel)]; kernel_rfl) | (rw [if_neg (by decide +kernel)]; exact ⟨rfl, rfl⟩))
    (fun os started H enc _ => lifted os started H enc)

theorem holds : Rows.ScriptTextsCardSaid :=
  Claim7.holds_tied_plain_at .later [] [.data, .data, .data, .data, .sentinel, .sentinel, .pinned] true (true, "69e3ff9e1b87f2e58c69bb3f4bb9dc22c1ab813b9bf72ed23ae5721368a7ac3f") true
    row_holds (fun _ h => by cases h) (by kernel_rfl) (fun _ h => by cases h) scriptTexts_row_tie rfl ⟨rfl, rfl⟩ (by kernel_rfl) rfl
    (fun f fn hf hfn => by
      obtain rfl : f = 3 := Option.some.inj ((show Tryd.prog.funcNamed Rows.scriptTextsRow.func = some 3 by kernel_rfl).symm.trans hf) |>.symm
      obtain rfl : fn = Tryd.f3 := (Option.some.inj (Tryd.func3.symm.trans hfn)).symm
      exact ⟨by kernel_rfl, fun j t ht => by
        have hm : t ∈ Tryd.f3.params := Array.mem_of_getElem? ht
        have hall : Tryd.f3.params.all (fun t => Tryd.prog.wantsStandIn t == false) = true := by kernel_rfl
        have hz : Tryd.prog.wantsStandIn t = false := by simpa using Array.all_eq_true'.1 hall t hm
        exact hz⟩)
    (by kernel_rfl)

#print axioms holds
end Go.Proofs.YtlapbgeklhinmaaDoor
