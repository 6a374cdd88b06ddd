/- A region that draws, with several effects amidst the others, each of which waits for the one before. -/
import Derived.Test.YtfiamlhhhkiiaaaN9
set_option linter.unusedVariables false
set_option linter.unusedSimpArgs false
namespace Go.Proofs.Ytfiamlhhhkiiaaa.K
open Go Go.RowKit

/-- How many effects an operation's value stands behind. -/
def avL (eff lv : List Nat) (i : Nat) : Nat := if eff.contains i then lv.getD i 0 + 1 else lv.getD i 0
def levB (ops : Array Oper) (eff lv : List Nat) : Bool :=
  (List.range ops.size).all fun i => match ops[i]? with
    | none => true
    | some o => lv.getD i 0 == 0 || o.after.any fun e => Region.binds .any e && avL eff lv e.on == lv.getD i 0
def effB (ops : Array Oper) (eff lv : List Nat) : Bool := (List.range eff.length).all fun k => lv.getD (eff.getD k 0) 0 == k && decide (eff.getD k 0 < ops.size)
def lateL (ops : Array Oper) (eff lv : List Nat) (r : Nat) : List Nat := (List.range ops.size).filter fun j => decide (r < avL eff lv j)
def upB (ops : Array Oper) (eff lv : List Nat) : Bool :=
  (List.range ops.size).all fun i => match ops[i]? with
    | none => true
    | some o => o.after.all fun e => !Region.binds .any e || decide (avL eff lv e.on ≤ lv.getD i 0)
/-- An operation for which the ub-th effect waits is done before that effect. -/
def ubB (ops : Array Oper) (eff ub : List Nat) : Bool :=
  (List.range ops.size).all fun i => decide (eff.length ≤ ub.getD i 0) || (match ops[eff.getD (ub.getD i 0) 0]? with | none => false | some o => o.after.any fun e => Region.binds .any e && e.on == i)
def readsG (ops : Array Oper) (eff lv sk : List Nat) : Bool := (List.range ops.size).all fun i => readsAt ops (sk ++ lateL ops eff lv (lv.getD i 0)) i

section
variable {P : Program} {ops : Array Oper} {l0 : List Value} {s : Nat} {S : Type} {rank : S → Nat} {C : S → World → Prop} {v : S → Nat → Value} {eff lv ub sk : List Nat} {gs : List Bool} {Q : Exit → Act → World → Prop}
structure GInv (ops : Array Oper) (rank : S → Nat) (v : S → Nat → Value) (eff : List Nat) (l0 : List Value) (st : S) (listed : Array Bool) (l : List Value) : Prop where
  size : listed.size = ops.size
  len : l.length = l0.length
  ok : ∀ i, i < ops.size → listed.getD i true = true → slotOk ops (v st) l i
  old : ∀ d, (∀ (j : Nat) (o' : Oper), ops[j]? = some o' → o'.dst ≠ some d) → l.getD d undef = l0.getD d undef
  un : ∀ i o d, ops[i]? = some o → listed.getD i true = false → o.dst = some d → l.getD d undef = l0.getD d undef
  cl : ∀ j o', ops[j]? = some o' → listed.getD j true = true → ∀ e ∈ o'.after, Region.binds .any e = true → listed.getD e.on true = true
  st : ∀ k, k < eff.length → listed.getD (eff.getD k 0) true = decide (k < rank st)
theorem effB_spec (h : effB ops eff lv = true) {k : Nat} (hk : k < eff.length) : lv.getD (eff.getD k 0) 0 = k ∧ eff.getD k 0 < ops.size := by
  have h1 := List.all_eq_true.1 h k (List.mem_range.2 hk)
  simp only [Bool.and_eq_true, beq_iff_eq, decide_eq_true_eq] at h1
  exact h1
theorem mem_eff {i : Nat} (h : eff.contains i = true) : ∃ k, k < eff.length ∧ eff.getD k 0 = i := by
  have : i ∈ eff := by simpa using h
  obtain ⟨k, hk, rfl⟩ := List.mem_iff_getElem.1 this
  exact ⟨k, hk, by rw [List.getD_eq_getElem?_getD, List.getElem?_eq_getElem hk]; rfl⟩
theorem eff_mem {k : Nat} (hk : k < eff.length) : eff.contains (eff.getD k 0) = true := by
  rw [List.getD_eq_getElem?_getD, List.getElem?_eq_getElem hk]
  simp
theorem levB_spec (h : levB ops eff lv = true) {i : Nat} {o : Oper} (ho : ops[i]? = some o) : lv.getD i 0 = 0 ∨ ∃ e ∈ o.after, Region.binds .any e = true ∧ avL eff lv e.on = lv.getD i 0 := by
  have h1 := List.all_eq_true.1 h i (List.mem_range.2 (Array.getElem?_eq_some_iff.1 ho).1)
  simp only [ho, Bool.or_eq_true, beq_iff_eq, Array.any_eq_true', Bool.and_eq_true] at h1
  exact h1
theorem upB_spec (h : upB ops eff lv = true) {i : Nat} {o : Oper} (ho : ops[i]? = some o) : ∀ e ∈ o.after, Region.binds .any e = true → avL eff lv e.on ≤ lv.getD i 0 := by
  have h1 := List.all_eq_true.1 h i (List.mem_range.2 (Array.getElem?_eq_some_iff.1 ho).1)
  simp only [ho] at h1
  intro e he hb
  have := Array.all_eq_true'.1 h1 e he
  rw [hb] at this
  simpa using this
theorem GInv.lev {st : S} {listed : Array Bool} {l : List Value} (hE : GInv ops rank v eff l0 st listed l) (hL : levB ops eff lv = true) (hF : effB ops eff lv = true) (hB : okE ops l0.length s = true) : ∀ i, i < ops.size → listed.getD i true = true → avL eff lv i ≤ rank st := by
  intro i
  induction i using Nat.strongRecOn with
  | _ i ih =>
    intro hi hl
    have ho : ops[i]? = some ops[i] := Array.getElem?_eq_getElem hi
    have h1 : lv.getD i 0 ≤ rank st := by
      rcases levB_spec hL ho with h | ⟨e, he, hb, hd⟩
      · omega
      · have hlt := (okE_spec hB ho).a e he hb
        have := ih e.on hlt (by omega) (hE.cl i _ ho hl e he hb)
        omega
    unfold avL
    split
    · rename_i hc
      obtain ⟨k, hk, rfl⟩ := mem_eff hc
      have h2 := hE.st k hk
      rw [hl] at h2
      have h3 : k < rank st := by simpa using h2.symm
      rw [(effB_spec hF hk).1]; omega
    · exact h1
structure StepsG (P : Program) (ops : Array Oper) (rank : S → Nat) (C : S → World → Prop) (v : S → Nat → Value) (eff lv ub : List Nat) (l0 : List Value) (sk : List Nat) (gs : List Bool) : Prop where
  stay : ∀ i o, ops[i]? = some o → eff.contains i = false → ∀ st w, C st w → lv.getD i 0 ≤ rank st → rank st ≤ ub.getD i 0 → (gs.getD i true = true → Does P (execOp (evL (finX ops (v st) l0 (sk ++ lateL ops eff lv (lv.getD i 0)) ops.size)) o) False w fun u w' => u = v st i ∧ C st w') ∧ (gs.getD i true = false → v st i = undef)
  want : ∀ i o, ops[i]? = some o → ∀ st w, C st w → lv.getD i 0 ≤ rank st → wantedV o (v st) = gs.getD i true
  effw : ∀ k, k < eff.length → gs.getD (eff.getD k 0) true = true
  step : ∀ k, k < eff.length → ∀ o, ops[eff.getD k 0]? = some o → ∀ st w, C st w → rank st = k → Does P (execOp (evL (finX ops (v st) l0 (sk ++ lateL ops eff lv k) ops.size)) o) (o.dst = none) w fun u w' => ∃ st', rank st' = k + 1 ∧ (∀ j, avL eff lv j ≤ k → v st' j = v st j) ∧ (o.dst = none ∨ u = v st' (eff.getD k 0)) ∧ C st' w'
theorem wpAny_invG {ds : List Deferred} (hB : okE ops l0.length s = true) (hL : levB ops eff lv = true) (hU : upB ops eff lv = true) (hF : effB ops eff lv = true) (hR : readsG ops eff lv sk = true) (hY : ubB ops eff ub = true) (hK : ∀ st w, C st w → rank st ≤ eff.length) (hS : StepsG P ops rank C v eff lv ub l0 sk gs)
    (hQ : ∀ l w st, C st w → eff.length ≤ rank st → l.length = l0.length → (∀ i, i < ops.size → slotOk ops (v st) l i) → (∀ d, (∀ (j : Nat) (o' : Oper), ops[j]? = some o' → o'.dst ≠ some d) → l.getD d undef = l0.getD d undef) → Q .normal ⟨l.toArray, ds⟩ w) :
    ∀ (fuel : Nat) (listed : Array Bool) (l : List Value) (w : World) (st : S), C st w → GInv ops rank v eff l0 st listed l → listed.toList.count false ≤ fuel → wpAny P .any ops Q fuel listed ⟨l.toArray, ds⟩ w := by
  have finish : ∀ (listed : Array Bool) (l : List Value) (w : World) (st : S), C st w → GInv ops rank v eff l0 st listed l → (∀ i, i < ops.size → listed.getD i true = true) → Q .normal ⟨l.toArray, ds⟩ w := by
    intro listed l w st hC hI hall
    refine hQ l w st hC ?_ hI.len (fun i hi => hI.ok i hi (hall i hi)) hI.old
    rcases Nat.lt_or_ge (rank st) eff.length with h | h
    · have h1 := hI.st (rank st) h
      rw [hall _ (effB_spec hF h).2] at h1
      simp at h1
    · exact h
  intro fuel
  induction fuel with
  | zero =>
    intro listed l w st hC hI hc
    have hall : ∀ i, i < ops.size → listed.getD i true = true := by
      intro i hi
      cases hb : listed.getD i true with
      | true => rfl
      | false =>
        have h0 : listed.toList.count false = 0 := by omega
        rw [List.count_eq_zero] at h0
        refine absurd ?_ h0
        rw [Array.getD_eq_getD_getElem?, Array.getElem?_eq_getElem (by rw [hI.size]; exact hi)] at hb
        simp only [Option.getD_some] at hb
        rw [← hb]
        simp
    refine ⟨?_, finish listed l w st hC hI hall⟩
    cases hr : Region.ready .any ops listed with
    | nil => rfl
    | cons x xs =>
      have hx : x ∈ Region.ready .any ops listed := by rw [hr]; simp
      obtain ⟨h1, o, ho, _⟩ := mem_ready.1 hx
      rw [hall x (Array.getElem?_eq_some_iff.1 ho).1] at h1
      cases h1
  | succ fuel ih =>
    intro listed l w st hC hI hc
    refine ⟨fun hr => finish listed l w st hC hI (ready_allE hB hI.size hr), fun i hi => ?_⟩
    obtain ⟨hb, o, ho, hall⟩ := mem_ready.1 hi
    have hlt : i < ops.size := (Array.getElem?_eq_some_iff.1 ho).1
    have hok := okE_spec hB ho
    have hlisted : ∀ e ∈ o.after, Region.binds .any e = true → listed.getD e.on true = true := by
      intro e he hbd
      have h1 := hall e he hbd
      have h2 := hok.a e he hbd
      rw [gd (by rw [hI.size]; omega)] at h1; exact h1
    have hon : ∀ e ∈ o.after, Region.binds .any e = true → slotOk ops (v st) l e.on := fun e he hbd => hI.ok e.on (by have := hok.a e he hbd; omega) (hlisted e he hbd)
    have hlvi : lv.getD i 0 ≤ rank st := by
      rcases levB_spec hL ho with h | ⟨e, he, hbd, hd⟩
      · omega
      · have := hI.lev hL hF hB e.on (by have := hok.a e he hbd; omega) (hlisted e he hbd)
        omega
    have hun : Unwr ops l0 l i := by
      intro j o' d hj hd hw
      refine hI.un j o' d hj ?_ hd
      cases hq : listed.getD j true with
      | false => rfl
      | true =>
        obtain ⟨e, he, hbd, hon⟩ := hw
        have := hI.cl j o' hj hq e he hbd
        rw [hon, hb] at this; cases this
    have hli : i < listed.size := by rw [hI.size]; exact hlt
    have hcl : ∀ j o', ops[j]? = some o' → (listed.setIfInBounds i true).getD j true = true → ∀ e ∈ o'.after, Region.binds .any e = true → (listed.setIfInBounds i true).getD e.on true = true := by
      intro j o' hj hq e he hbd
      rw [set_getD hli] at hq ⊢
      split
      · rfl
      · by_cases hij : i = j
        · subst hij
          rw [ho] at hj; cases hj
          exact hlisted e he hbd
        · rw [if_neg hij] at hq
          exact hI.cl j o' hj hq e he hbd
    have hcount : (listed.setIfInBounds i true).toList.count false ≤ fuel := by
      have hf : listed.toList[i]'(by simpa using hli) = false := by
        rw [Array.getD_eq_getD_getElem?, Array.getElem?_eq_getElem hli] at hb
        simpa using hb
      have hpos : 0 < listed.toList.count false := List.count_pos_iff.2 (by rw [← hf]; exact List.getElem_mem _)
      rw [Array.toList_setIfInBounds, List.count_set (by simpa using hli)]
      simp only [hf]
      simp
      have : List.count false listed.toList = Array.count false listed := by simp
      omega
    have hRi := List.all_eq_true.1 hR i (List.mem_range.2 hlt)
    have hwant : Region.wanted o (yielded ops l.toArray) = gs.getD i true := (wanted_of hB hI.len ho hon).trans (hS.want i o ho st w hC hlvi)
    have next : ∀ (st' : S) (u : Value) (w' : World), C st' w' → (∀ j, j < ops.size → j ≠ i → listed.getD j true = true → v st' j = v st j) → (o.dst = none ∨ u = v st' i) → (∀ k, k < eff.length → (listed.setIfInBounds i true).getD (eff.getD k 0) true = decide (k < rank st')) →
        wpAny P .any ops Q fuel (listed.setIfInBounds i true) ⟨(putL l o.dst u).toArray, ds⟩ w' := by
      intro st' u w' hC' hsame hv' hst'
      refine ih _ _ _ st' hC' ⟨by simp [hI.size], by rw [putL_len]; exact hI.len, ?_, ?_, ?_, hcl, hst'⟩ hcount
      · intro j hj hlj o' d' ho' hd'
        by_cases hji : j = i
        · subst hji
          rw [ho] at ho'; cases ho'
          rcases hok.d with ⟨_, h0⟩ | ⟨d, h0, hdl⟩
          · rw [h0] at hd'; cases hd'
          · rw [h0] at hd'; cases hd'
            rw [h0, putL, List.getD_eq_getElem?_getD, List.getElem?_set_self (by rw [hI.len]; exact hdl)]
            rcases hv' with h3 | h3
            · rw [h0] at h3; cases h3
            · rw [h3]; rfl
        · have hlj' : listed.getD j true = true := by
            rw [set_getD hli, if_neg (Ne.symm hji)] at hlj; exact hlj
          have h5 := hI.ok j hj hlj' o' d' ho' hd'
          rw [hsame j hj hji hlj']
          rcases hok.d with ⟨_, h0⟩ | ⟨d, h0, hdl⟩
          · rw [h0]; exact h5
          · have hne : d ≠ d' := by
              intro he; subst he
              exact hok.ne j o' d ho' (Ne.symm hji) h0 hd'
            rw [h0, putL, List.getD_eq_getElem?_getD, List.getElem?_set_ne hne, ← List.getD_eq_getElem?_getD]
            exact h5
      · intro d' hd'
        rcases hok.d with ⟨_, h0⟩ | ⟨d, h0, hdl⟩
        · rw [h0]; exact hI.old d' hd'
        · have hne : d ≠ d' := by intro he; subst he; exact hd' i o ho h0
          rw [h0, putL, List.getD_eq_getElem?_getD, List.getElem?_set_ne hne, ← List.getD_eq_getElem?_getD]
          exact hI.old d' hd'
      · intro j o' d' hj hq hd'
        have hne : i ≠ j := by intro h; subst h; rw [set_getD hli, if_pos rfl] at hq; cases hq
        rw [set_getD hli, if_neg hne] at hq
        rcases hok.d with ⟨_, h0⟩ | ⟨d, h0, hdl⟩
        · rw [h0]; exact hI.un j o' d' hj hq hd'
        · have hdd : d ≠ d' := by intro h; subst h; exact hok.ne j o' d hj hne h0 hd'
          rw [h0, putL, List.getD_eq_getElem?_getD, List.getElem?_set_ne hdd, ← List.getD_eq_getElem?_getD]
          exact hI.un j o' d' hj hq hd'
    cases hce : eff.contains i with
    | true =>
      obtain ⟨k, hk, hki⟩ := mem_eff hce
      have hlk : lv.getD i 0 = k := by rw [← hki]; exact (effB_spec hF hk).1
      have hrk : rank st = k := by
        have h1 := hI.st k hk
        rw [hki, hb] at h1
        have : ¬ k < rank st := by simpa using h1.symm
        omega
      have hd := hS.step k hk o (by rw [hki]; exact ho) st w hC hrk
      rw [hlk] at hRi
      rw [← evL_finX (val := v st) hB (sk ++ lateL ops eff lv k) hRi ho hon hI.old hun] at hd
      refine hd.wpOp ho (hwant.trans (by rw [← hki]; exact hS.effw k hk)) ?_
      rintro u w' ⟨st', hr', hsame, hx, hC'⟩
      rw [hki] at hx
      refine next st' u w' hC' ?_ hx ?_
      · intro j hj hji hlj
        exact hsame j (by have := hI.lev hL hF hB j hj hlj; omega)
      · intro m hm
        rw [set_getD hli, hr']
        by_cases hmk : m = k
        · subst hmk
          rw [if_pos hki.symm]
          simp
        · have hne : ¬ i = eff.getD m 0 := by
            intro h
            have h1 := (effB_spec hF hm).1
            rw [← h, hlk] at h1
            exact hmk h1.symm
          rw [if_neg hne, hI.st m hm, hrk]
          by_cases h : m < k
          · simp [h]; omega
          · simp [h]; omega
    | false =>
      have hu : rank st ≤ ub.getD i 0 := by
        rcases Nat.lt_or_ge (ub.getD i 0) (rank st) with h | h
        · have h1 := List.all_eq_true.1 hY i (List.mem_range.2 hlt)
          simp only [Bool.or_eq_true, decide_eq_true_eq] at h1
          rcases Nat.lt_or_ge (ub.getD i 0) eff.length with h2 | h2
          · rcases h1 with h1 | h1
            · omega
            · cases ho2 : ops[eff.getD (ub.getD i 0) 0]? with
              | none => rw [ho2] at h1; simp at h1
              | some o2 =>
                rw [ho2] at h1
                obtain ⟨e, he, h3⟩ := Array.any_eq_true'.1 h1
                simp only [Bool.and_eq_true, beq_iff_eq] at h3
                have h4 := hI.st _ h2
                rw [decide_eq_true h] at h4
                have h5 := hI.cl _ o2 ho2 h4 e he h3.1
                rw [h3.2, hb] at h5; cases h5
          · have := hK st w hC; omega
        · exact h
      have hd0 := hS.stay i o ho hce st w hC hlvi hu
      cases hgs : gs.getD i true with
      | false =>
        rw [hgs] at hwant
        unfold Go.wpOp
        rw [ho]
        simp only [hwant, Bool.false_eq_true, if_false]
        rw [put_eq]
        refine next st undef w hC (fun _ _ _ _ => rfl) (.inr (hd0.2 hgs).symm) (fun m hm => ?_)
        rw [set_getD hli, if_neg ?_]
        · exact hI.st m hm
        · intro h
          have := eff_mem (eff := eff) hm
          rw [← h, hce] at this; cases this
      | true =>
      have hd := hd0.1 hgs
      rw [← evL_finX (val := v st) hB (sk ++ lateL ops eff lv (lv.getD i 0)) hRi ho hon hI.old hun] at hd
      refine hd.nod.wpOp ho (hwant.trans hgs) ?_
      rintro u w' ⟨hvv, hC'⟩
      refine next st u w' hC' (fun _ _ _ _ => rfl) (.inr hvv) (fun m hm => ?_)
      rw [set_getD hli, if_neg ?_]
      · exact hI.st m hm
      · intro h
        have := eff_mem (eff := eff) hm
        rw [← h, hce] at this; cases this
end
/-- The region, some of whose operations are not done (gs): st0 at the start; lf: the temporaries at the end. -/
theorem r_drawnH {P : Program} {f : Fx} {k : List Item} {w : World} {R : Ending → World → Prop} {c : Code} {S : Type} {rank : S → Nat} {C : S → World → Prop} {v : S → List Value} {l0 : List Value} {id : Nat} (st0 : S) (s n : Nat) (eff lv ub sk : List Nat) (gs : List Bool) (hc : c = .region id (opsOf c) true) (hm : P.follows .mixedOrders = true) (hn : (opsOf c).size = n)
    (hB : okE (opsOf c) l0.length s = true) (hL : levB (opsOf c) eff lv = true) (hU : upB (opsOf c) eff lv = true) (hF : effB (opsOf c) eff lv = true) (hR : readsG (opsOf c) eff lv sk = true) (hY : ubB (opsOf c) eff ub = true) (h0 : rank st0 = 0) (hC : C st0 w.drew) (hK : ∀ st w, C st w → rank st ≤ eff.length)
    (hW : ∀ i, i < n → ∀ st w, C st w → lv.getD i 0 ≤ rank st → wantedV (opO c i) (fun j => (v st).getD j undef) = gs.getD i true) (hE : ∀ k, k < eff.length → gs.getD (eff.getD k 0) true = true)
    (h1 : ∀ i, i < n → eff.contains i = false → ∀ st w, C st w → lv.getD i 0 ≤ rank st → rank st ≤ ub.getD i 0 → (gs.getD i true = true → Does P (execOp (evL (finX (opsOf c) (fun i => (v st).getD i undef) l0 (sk ++ lateL (opsOf c) eff lv (lv.getD i 0)) n)) (opO c i)) False w fun u w' => u = (v st).getD i undef ∧ C st w') ∧ (gs.getD i true = false → (v st).getD i undef = undef))
    (h2 : ∀ k, k < eff.length → ∀ st w, C st w → rank st = k → Does P (execOp (evL (finX (opsOf c) (fun i => (v st).getD i undef) l0 (sk ++ lateL (opsOf c) eff lv k) n)) (opO c (eff.getD k 0))) ((opO c (eff.getD k 0)).dst = none) w fun u w' => ∃ st', rank st' = k + 1 ∧ (∀ j, avL eff lv j ≤ k → (v st').getD j undef = (v st).getD j undef) ∧ ((opO c (eff.getD k 0)).dst = none ∨ u = (v st').getD (eff.getD k 0) undef) ∧ C st' w')
    (hk : ∀ st w', C st w' → eff.length ≤ rank st → Runs P f k (finX (opsOf c) (fun i => (v st).getD i undef) l0 [] n) w' R) (hro : (bs f).roundOf = none ∨ noDef (opsOf c) = true := by first | exact .inl rfl | exact .inr (by kernel_rfl)) : Runs P f (.code c :: k) l0 w R := by
  subst hn
  have hO : ∀ {i : Nat} {o : Oper}, (opsOf c)[i]? = some o → opO c i = o := by intro i o ho; unfold opO; rw [ho]
  rw [hc]
  have hq : wpAny P .any (opsOf c) (fun e a' w' => e = .normal ∧ ∃ l' : List Value, a' = ⟨l'.toArray, f.ds⟩ ∧ Runs P f k l' w' R) (opsOf c).size (Array.replicate (opsOf c).size false) ⟨l0.toArray, f.ds⟩ { w with drawn := w.drawn + 1 } := by
    have hS : StepsG P (opsOf c) rank C (fun st i => (v st).getD i undef) eff lv ub l0 sk gs := by
      refine ⟨fun i o ho hd st w hw hr hu => ?_, fun i o ho st w hw hr => ?_, hE, fun k hk o ho st w hw hr => ?_⟩
      · rw [← hO ho]; exact h1 i (Array.getElem?_eq_some_iff.1 ho).1 hd st w hw hr hu
      · rw [← hO ho]; exact hW i (Array.getElem?_eq_some_iff.1 ho).1 st w hw hr
      · rw [← hO ho]; exact h2 k hk st w hw hr
    have hfin : ∀ l w' st, C st w' → eff.length ≤ rank st → l.length = l0.length → (∀ i, i < (opsOf c).size → slotOk (opsOf c) (fun i => (v st).getD i undef) l i) → (∀ d, (∀ (j : Nat) (o' : Oper), (opsOf c)[j]? = some o' → o'.dst ≠ some d) → l.getD d undef = l0.getD d undef) → Runs P f k l w' R := by
      intro l w' st hC' hr e1 e2 e3
      have he : l = finX (opsOf c) (fun i => (v st).getD i undef) l0 [] (opsOf c).size := by
        refine List.ext_getElem? fun d => ?_
        have key : l.getD d undef = (finX (opsOf c) (fun i => (v st).getD i undef) l0 [] (opsOf c).size).getD d undef := by
          by_cases hd : ∃ (j : Nat) (o' : Oper), (opsOf c)[j]? = some o' ∧ o'.dst = some d
          · obtain ⟨j, o', hj, hd⟩ := hd
            have hjl := (Array.getElem?_eq_some_iff.1 hj).1
            rw [e2 j hjl o' d hj hd]
            exact (finX_at (val := fun i => (v st).getD i undef) hB [] (opsOf c).size (Nat.le_refl _) hjl (by simp) o' d hj hd).symm
          · have hno : ∀ (j : Nat) (o' : Oper), (opsOf c)[j]? = some o' → o'.dst ≠ some d := fun j o' hj hd' => hd ⟨j, o', hj, hd'⟩
            rw [e3 d hno]
            exact (finX_old [] _ (fun j o' hj hd' => absurd hd' (hno j o' hj))).symm
        by_cases hlt : d < l0.length
        · rw [List.getD_eq_getElem?_getD, List.getD_eq_getElem?_getD, List.getElem?_eq_getElem (by omega), List.getElem?_eq_getElem (by rw [finX_len]; exact hlt)] at key
          rw [List.getElem?_eq_getElem (by omega), List.getElem?_eq_getElem (by rw [finX_len]; exact hlt)]
          simpa using key
        · rw [List.getElem?_eq_none (by omega), List.getElem?_eq_none (by rw [finX_len]; omega)]
      rw [he]
      exact hk st w' hC' hr
    refine wpAny_invG (l0 := l0) hB hL hU hF hR hY hK hS (fun l w' x hC' hr e1 e2 e3 => ⟨rfl, l, rfl, hfin l w' x hC' hr e1 e2 e3⟩) _ _ _ _ st0 hC ⟨by simp, rfl, ?_, fun _ _ => rfl, fun _ _ _ _ _ _ => rfl, ?_, ?_⟩ (by simp [Array.toList_replicate])
    · intro i hi hl
      rw [Array.getD_eq_getD_getElem?, Array.getElem?_eq_getElem (by simpa using hi)] at hl
      simp at hl
    · intro j o' hj hl
      rw [Array.getD_eq_getD_getElem?, Array.getElem?_eq_getElem (by simpa using (Array.getElem?_eq_some_iff.1 hj).1)] at hl
      simp at hl
    · intro k hk
      rw [h0, Array.getD_eq_getD_getElem?, Array.getElem?_eq_getElem (by simpa using (effB_spec hF hk).2)]; simp
  exact runs_region_any hm hro hq

theorem r_drawnG {P : Program} {f : Fx} {k : List Item} {w : World} {R : Ending → World → Prop} {c : Code} {S : Type} {rank : S → Nat} {C : S → World → Prop} {v : S → List Value} {l0 : List Value} {id : Nat} (st0 : S) (s n : Nat) (eff lv ub sk : List Nat) (hc : c = .region id (opsOf c) true) (hm : P.follows .mixedOrders = true) (hn : (opsOf c).size = n)
    (hB : okE (opsOf c) l0.length s = true) (hL : levB (opsOf c) eff lv = true) (hU : upB (opsOf c) eff lv = true) (hF : effB (opsOf c) eff lv = true) (hR : readsG (opsOf c) eff lv sk = true) (hY : ubB (opsOf c) eff ub = true) (hN : noG (opsOf c) = true) (h0 : rank st0 = 0) (hC : C st0 w.drew) (hK : ∀ st w, C st w → rank st ≤ eff.length)
    (h1 : ∀ i, i < n → eff.contains i = false → ∀ st w, C st w → lv.getD i 0 ≤ rank st → rank st ≤ ub.getD i 0 → Does P (execOp (evL (finX (opsOf c) (fun i => (v st).getD i undef) l0 (sk ++ lateL (opsOf c) eff lv (lv.getD i 0)) n)) (opO c i)) False w fun u w' => u = (v st).getD i undef ∧ C st w')
    (h2 : ∀ k, k < eff.length → ∀ st w, C st w → rank st = k → Does P (execOp (evL (finX (opsOf c) (fun i => (v st).getD i undef) l0 (sk ++ lateL (opsOf c) eff lv k) n)) (opO c (eff.getD k 0))) ((opO c (eff.getD k 0)).dst = none) w fun u w' => ∃ st', rank st' = k + 1 ∧ (∀ j, avL eff lv j ≤ k → (v st').getD j undef = (v st).getD j undef) ∧ ((opO c (eff.getD k 0)).dst = none ∨ u = (v st').getD (eff.getD k 0) undef) ∧ C st' w')
    (hk : ∀ st w', C st w' → eff.length ≤ rank st → Runs P f k (finX (opsOf c) (fun i => (v st).getD i undef) l0 [] n) w' R) (hro : (bs f).roundOf = none ∨ noDef (opsOf c) = true := by first | exact .inl rfl | exact .inr (by kernel_rfl)) : Runs P f (.code c :: k) l0 w R := by
  refine r_drawnH st0 s n eff lv ub sk [] hc hm hn hB hL hU hF hR hY h0 hC hK (fun i hi st w hw hr => ?_) (fun k hk => rfl) (fun i hi hd st w hw hr hu => ⟨fun _ => h1 i hi hd st w hw hr hu, fun h => by simp at h⟩) h2 hk hro
  have hlt : i < (opsOf c).size := by omega
  have ho : (opsOf c)[i]? = some (opsOf c)[i] := Array.getElem?_eq_getElem hlt
  have hoo : opO c i = (opsOf c)[i] := by unfold opO; rw [ho]
  rw [hoo]
  unfold wantedV
  rw [noG_spec hN ho]; rfl

/-! ### What effects do amidst such a region: the rest is told by Post -/
theorem Does.mono {P : Program} {sem : Sem Next} {p : Prop} {w : World} {Post Post' : Value → World → Prop} (h : Does P sem p w Post) (hm : ∀ v w', Post v w' → Post' v w') : Does P sem p w Post' := by
  rcases h with ⟨v, w', hr, hp⟩ | ⟨hn, w', hr, hp⟩ | ⟨g, args, hr, hc⟩
  · exact .inl ⟨v, w', hr, hm _ _ hp⟩
  · exact .inr (.inl ⟨hn, w', hr, hm _ _ hp⟩)
  · exact .inr (.inr ⟨g, args, hr, hc.mono (fun e w' ⟨v, he, hp⟩ => ⟨v, he, hm _ _ hp⟩)⟩)
section
variable {P : Program} {l : List Value} {w w0 : World} {Z : Zm} {os : List XObj} {or : Oper} {p : Prop} {Post : Value → World → Prop}
theorem does_lit {t e : TypeId} {sz n : Nat} {parts : Array (Nat × Operand)} {vs : List (Nat × Value)} {z : Value} {cs cs' : List Value} (hS : St w0 Z os w) (ho : or.op = .buildSlice t n parts) (hp : (parts.map fun p => (p.1, evL l p.2)) = vs.toArray) (hu : P.underlying t = some (.slice e)) (hs : pureSem P (sizeOf e) = some sz) (hsz : 0 < sz ∧ n * sz ≤ 2 ^ 24) (hn : 0 < n)
    (hz : pureSem P (zeroValue e) = some z) (hvs : vs.length = n) (hc : Parts sz 0 vs cs) (he : cs = cs')
    (h : ∀ b w', St w0 Z (xrow (some ⟨b, 0, none⟩) n e sz cs' :: os) w' → Post (.slice (some ⟨b, 0, none⟩) n n) w') : Does P (execOp (evL l) or) p w Post := by
  subst he
  have hpos : 0 < n * sz := Nat.mul_pos hn hsz.1
  have hm : n ≤ n * sz := Nat.le_mul_of_pos_right _ hsz.1
  have hlen : cs.length = n * sz := by rw [hc.len, hvs]
  refine .inl ⟨_, _, x_buildSlice (zs := #[z]) (vs := vs) (cs := cs.toArray) hu hs hsz.2 (by omega) (by simpa using hz) hp ?_ ho, h _ _ ((hS.newblk (new_alloc w _)).rowOfBlk hlen hn (by omega))⟩
  have := fill_parts hc [] ((Array.range (n * sz)).map (fun j => (#[z] : Array Value)[0]!.cells[j % (#[z] : Array Value)[0]!.cells.size]!)).toList (by simp) (by simp [hvs])
  rw [List.nil_append, List.nil_append, Array.toArray_toList] at this
  exact this
theorem does_append {α : Type} {enc : α → List Value} {e u t t2 : TypeId} {sz cp : Nat} {A : Option Addr} {xs ys : List α} {s x : Operand} {xv : Value} {info : TypeInfo} {z : Value} {bytes : Nat} {ycs : List Value}
    (hS : St w0 Z (xrow A cp e sz (xs.flatMap enc) :: os) w) (ho : or.op = .call { callee := .builtin .append, args := #[s, x], argTypes := #[t, t2] }) (hs : evL l s = .slice A xs.length cp) (hx : evL l x = xv)
    (ht : P.underlying t = some (.slice e)) (h2 : P.underlying t2 = some (.slice u) ∨ P.underlying t2 = some .string) (hi : P.info? e = some info) (hz : info.zero = some z) (hsize : info.size = sz) (hby : info.bytes = bytes) (hzs : z.cells.size = sz) (hsz : 0 < sz)
    (hl : ∀ x, (enc x).length = sz) (h1 : ∀ x, (enc x).all Value.oneCell' = true) (hc : Src P w sz xv ys.length ycs) (hy : ycs = ys.flatMap enc) (hbytes : (xs.length + ys.length) * bytes ≤ 140737488355328) (hb1 : 0 < bytes)
    (h : ∀ A' c' w', St w0 Z (xrow A' c' e sz ((xs ++ ys).flatMap enc) :: os) w' → Post (.slice A' (xs ++ ys).length c') w') : Does P (execOp (evL l) or) p w Post := by
  subst hy
  obtain ⟨A', c', w', hr, hO', hf, hrel, -⟩ := append_run (P := P) (ty := or.type) ht h2 hi hz hsize hby hzs hsz hS.hd (flat_len hl xs) hc (flat_one h1 ys) hbytes hb1
  rw [← List.flatMap_append] at hO' hrel
  rw [← List.length_append] at hr
  exact .inl ⟨_, w', x_append hs hx hr ho, h A' c' w' (hS.turn (X' := xrow A' c' e sz ((xs ++ ys).flatMap enc)) hf hO' hrel (fun _ _ _ _ h => h.elim) (fun _ _ _ _ h => h.elim))⟩
theorem does_storeG {t : TypeId} {x y : Operand} {b o : Nat} {e : TypeId} {cs cs' : List Value} {v : Value} {vs : List Value} (hS : St w0 Z (xblk b e cs :: os) w) (ho : or.op = .store t x y) (hd : p) (hx : evL l x = .pointer (some ⟨b, o, none⟩)) (hy : evL l y = v)
    (hv : v.cells = vs.toArray) (hs : pureSem P (sizeOf t) = some vs.length) (h1 : vs.all Value.oneCell' = true) (hl : o + vs.length ≤ cs.length) (he : over cs o vs = cs') (h : ∀ w', St w0 Z (xblk b e cs' :: os) w' → Post undef w') : Does P (execOp (evL l) or) p w Post := by
  obtain ⟨w', hst, hb', hf⟩ := stores (P := P) (t := t) (o := o) (show Blk w b e cs from hS.hd) hv hs h1 hl
  exact .inr (.inl ⟨hd, w', x_store hx hy hst ho, h w' (hS.setblk hf (he ▸ hb'))⟩)
end
theorem nle {a b : Nat} (h : Nat.ble (b + 1) a = true) : ¬ a ≤ b := Nat.not_le_of_gt (Nat.le_of_ble_eq_true h)
theorem nbl {a b : Nat} (h : Nat.ble a b = true) : a ≤ b := Nat.le_of_ble_eq_true h
end Go.Proofs.Ytfiamlhhhkiiaaa.K
