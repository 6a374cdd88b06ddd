/- A region that draws, with several effects amidst the others, in any order that their waiting allows. -/
import Derived.Test.YtcjaknnihjcajaaGreatNG
set_option linter.unusedVariables false
set_option linter.unusedSimpArgs false
namespace Go.Proofs.YtcjaknnihjcajaaGreat.K
open Go Go.RowKit
def fullD (eff : List Nat) (D : List (List Nat)) (i : Nat) : List Nat := ((List.range eff.length).filter fun k => eff.getD k 0 == i) ++ D.getD i []
def levP (ops : Array Oper) (eff : List Nat) (D : List (List Nat)) : Bool :=
 (List.range ops.size).all fun i => match ops[i]? with
  | none => true
  | some o => (D.getD i []).all fun k => o.after.any fun e => Region.binds .any e && (fullD eff D e.on).contains k
def effP (ops : Array Oper) (eff : List Nat) : Bool := (List.range eff.length).all fun k => decide (eff.getD k 0 < ops.size) && (List.range eff.length).all fun m => decide (m = k) || !(eff.getD m 0 == eff.getD k 0)
def subL (a b : List Nat) : Bool := a.all fun k => b.contains k
def lateP (ops : Array Oper) (eff : List Nat) (D : List (List Nat)) (i : Nat) : List Nat := (List.range ops.size).filter fun j => !(subL (fullD eff D j) (D.getD i []))
def ubP (ops : Array Oper) (eff : List Nat) (U : List (List Nat)) : Bool :=
 (List.range ops.size).all fun i => (U.getD i []).all fun k => decide (k < eff.length) && (match ops[eff.getD k 0]? with | none => false | some o => o.after.any fun e => Region.binds .any e && e.on == i)
def readsP (ops : Array Oper) (eff : List Nat) (D : List (List Nat)) (sk : List Nat) : Bool := (List.range ops.size).all fun i => readsAt ops (sk ++ lateP ops eff D i) i
section
variable {P : Program} {ops : Array Oper} {l0 : List Value} {s : Nat} {S : Type} {dn : S → Nat → Bool} {C : S → World → Prop} {v : S → Nat → Value} {eff sk : List Nat} {D U : List (List Nat)} {gs : List Bool} {Q : Exit → Act → World → Prop}
structure PInv (ops : Array Oper) (dn : S → Nat → Bool) (v : S → Nat → Value) (eff : List Nat) (l0 : List Value) (st : S) (listed : Array Bool) (l : List Value) : Prop where
 size : listed.size = ops.size
 len : l.length = l0.length
 ok : ∀ i, i < ops.size → listed.getD i true = true → slotOk ops (v st) l i
 old : ∀ d, (∀ (j : Nat) (o' : Oper), ops[j]? = some o' → o'.dst ≠ some d) → l.getD d undef = l0.getD d undef
 un : ∀ i o d, ops[i]? = some o → listed.getD i true = false → o.dst = some d → l.getD d undef = l0.getD d undef
 cl : ∀ j o', ops[j]? = some o' → listed.getD j true = true → ∀ e ∈ o'.after, Region.binds .any e = true → listed.getD e.on true = true
 st : ∀ k, k < eff.length → listed.getD (eff.getD k 0) true = dn st k
theorem effP_spec (h : effP ops eff = true) {k : Nat} (hk : k < eff.length) : eff.getD k 0 < ops.size ∧ ∀ m, m < eff.length → eff.getD m 0 = eff.getD k 0 → m = k := by
 have h1 := List.all_eq_true.1 h k (List.mem_range.2 hk)
 simp only [Bool.and_eq_true, decide_eq_true_eq] at h1
 refine ⟨h1.1, fun m hm e => ?_⟩
 have h2 := List.all_eq_true.1 h1.2 m (List.mem_range.2 hm)
 simp only [Bool.or_eq_true, decide_eq_true_eq, e, beq_self_eq_true, Bool.not_true, Bool.false_eq_true, or_false] at h2
 exact h2
theorem mem_fullD {i k : Nat} : k ∈ fullD eff D i ↔ (k < eff.length ∧ eff.getD k 0 = i) ∨ k ∈ D.getD i [] := by
 unfold fullD
 rw [List.mem_append, List.mem_filter, List.mem_range, beq_iff_eq]
theorem levP_spec (h : levP ops eff D = true) {i : Nat} {o : Oper} (ho : ops[i]? = some o) {k : Nat} (hk : k ∈ D.getD i []) : ∃ e ∈ o.after, Region.binds .any e = true ∧ k ∈ fullD eff D e.on := by
 have h1 := List.all_eq_true.1 h i (List.mem_range.2 (Array.getElem?_eq_some_iff.1 ho).1)
 simp only [ho] at h1
 have h2 := List.all_eq_true.1 h1 k hk
 obtain ⟨e, he, h3⟩ := Array.any_eq_true'.1 h2
 rw [Bool.and_eq_true] at h3
 exact ⟨e, he, h3.1, by simpa using h3.2⟩
theorem PInv.lev {st : S} {listed : Array Bool} {l : List Value} (hE : PInv ops dn v eff l0 st listed l) (hL : levP ops eff D = true) (hF : effP ops eff = true) (hB : okE ops l0.length s = true) : ∀ i, i < ops.size → listed.getD i true = true → ∀ k ∈ fullD eff D i, k < eff.length → dn st k = true := by
  intro i
  induction i using Nat.strongRecOn with
  | _ i ih =>
    intro hi hl k hk hkl
    have ho : ops[i]? = some ops[i] := Array.getElem?_eq_getElem hi
    rcases mem_fullD.1 hk with ⟨h1, h2⟩ | h1
    · rw [← hE.st k h1, h2]; exact hl
    · obtain ⟨e, he, hb, hd⟩ := levP_spec hL ho h1
      have hlt := (okE_spec hB ho).a e he hb
      exact ih e.on hlt (by omega) (hE.cl i _ ho hl e he hb) k hd hkl
structure StepsP (P : Program) (ops : Array Oper) (dn : S → Nat → Bool) (C : S → World → Prop) (v : S → Nat → Value) (eff : List Nat) (D U : List (List Nat)) (l0 : List Value) (sk : List Nat) (gs : List Bool) : Prop where
 stay : ∀ i o, ops[i]? = some o → eff.contains i = false → ∀ st w, C st w → (∀ k ∈ D.getD i [], dn st k = true) → (∀ k ∈ U.getD i [], dn st k = false) → (gs.getD i true = true → Does P (execOp (evL (finX ops (v st) l0 (sk ++ lateP ops eff D i) ops.size)) o) False w fun u w' => u = v st i ∧ C st w') ∧ (gs.getD i true = false → v st i = undef)
 want : ∀ i o, ops[i]? = some o → ∀ st w, C st w → (∀ k ∈ D.getD i [], dn st k = true) → wantedV o (v st) = gs.getD i true
 effw : ∀ k, k < eff.length → gs.getD (eff.getD k 0) true = true
 step : ∀ k, k < eff.length → ∀ o, ops[eff.getD k 0]? = some o → ∀ st w, C st w → dn st k = false → (∀ m ∈ D.getD (eff.getD k 0) [], dn st m = true) → Does P (execOp (evL (finX ops (v st) l0 (sk ++ lateP ops eff D (eff.getD k 0)) ops.size)) o) (o.dst = none) w fun u w' => ∃ st', dn st' k = true ∧ (∀ m, m ≠ k → dn st' m = dn st m) ∧ (∀ j, k ∉ fullD eff D j → v st' j = v st j) ∧ (o.dst = none ∨ u = v st' (eff.getD k 0)) ∧ C st' w'
theorem wpAny_invP {ds : List Deferred} (hB : okE ops l0.length s = true) (hL : levP ops eff D = true) (hF : effP ops eff = true) (hR : readsP ops eff D sk = true) (hY : ubP ops eff U = true) (hDk : ∀ i k, k ∈ D.getD i [] → k < eff.length) (hS : StepsP P ops dn C v eff D U l0 sk gs)
    (hQ : ∀ l w st, C st w → (∀ k, k < eff.length → dn st k = true) → l.length = l0.length → (∀ i, i < ops.size → slotOk ops (v st) l i) → (∀ d, (∀ (j : Nat) (o' : Oper), ops[j]? = some o' → o'.dst ≠ some d) → l.getD d undef = l0.getD d undef) → Q .normal ⟨l.toArray, ds⟩ w) :
    ∀ (fuel : Nat) (listed : Array Bool) (l : List Value) (w : World) (st : S), C st w → PInv ops dn v eff l0 st listed l → listed.toList.count false ≤ fuel → wpAny P .any ops Q fuel listed ⟨l.toArray, ds⟩ w := by
  have finish : ∀ (listed : Array Bool) (l : List Value) (w : World) (st : S), C st w → PInv ops dn v eff l0 st listed l → (∀ i, i < ops.size → listed.getD i true = true) → Q .normal ⟨l.toArray, ds⟩ w := by
    intro listed l w st hC hI hall
    refine hQ l w st hC (fun k hk => ?_) hI.len (fun i hi => hI.ok i hi (hall i hi)) hI.old
    rw [← hI.st k hk]
    exact hall _ (effP_spec hF hk).1
  intro fuel
  induction fuel with
  | zero =>
    intro listed l w st hC hI hc
    have hall : ∀ i, i < ops.size → listed.getD i true = true := by
      intro i hi
      cases hb : listed.getD i true with
      | true => rfl
      | false =>
        have h0 : listed.toList.count false = 0 := by omega
        rw [List.count_eq_zero] at h0
        refine absurd ?_ h0
        rw [Array.getD_eq_getD_getElem?, Array.getElem?_eq_getElem (by rw [hI.size]; exact hi)] at hb
        simp only [Option.getD_some] at hb
        rw [← hb]
        simp
    refine ⟨?_, finish listed l w st hC hI hall⟩
    cases hr : Region.ready .any ops listed with
    | nil => rfl
    | cons x xs =>
      have hx : x ∈ Region.ready .any ops listed := by rw [hr]; simp
      obtain ⟨h1, o, ho, _⟩ := mem_ready.1 hx
      rw [hall x (Array.getElem?_eq_some_iff.1 ho).1] at h1
      cases h1
  | succ fuel ih =>
    intro listed l w st hC hI hc
    refine ⟨fun hr => finish listed l w st hC hI (ready_allE hB hI.size hr), fun i hi => ?_⟩
    obtain ⟨hb, o, ho, hall⟩ := mem_ready.1 hi
    have hlt : i < ops.size := (Array.getElem?_eq_some_iff.1 ho).1
    have hok := okE_spec hB ho
    have hlisted : ∀ e ∈ o.after, Region.binds .any e = true → listed.getD e.on true = true := by
      intro e he hbd
      have h1 := hall e he hbd
      have h2 := hok.a e he hbd
      rw [gd (by rw [hI.size]; omega)] at h1; exact h1
    have hon : ∀ e ∈ o.after, Region.binds .any e = true → slotOk ops (v st) l e.on := fun e he hbd => hI.ok e.on (by have := hok.a e he hbd; omega) (hlisted e he hbd)
    have hlvi : ∀ k ∈ D.getD i [], dn st k = true := by
      intro k hk
      obtain ⟨e, he, hbd, hd⟩ := levP_spec hL ho hk
      exact hI.lev hL hF hB e.on (by have := hok.a e he hbd; omega) (hlisted e he hbd) k hd (hDk i k hk)
    have hun : Unwr ops l0 l i := by
      intro j o' d hj hd hw
      refine hI.un j o' d hj ?_ hd
      cases hq : listed.getD j true with
      | false => rfl
      | true =>
        obtain ⟨e, he, hbd, hon⟩ := hw
        have := hI.cl j o' hj hq e he hbd
        rw [hon, hb] at this; cases this
    have hli : i < listed.size := by rw [hI.size]; exact hlt
    have hcl : ∀ j o', ops[j]? = some o' → (listed.setIfInBounds i true).getD j true = true → ∀ e ∈ o'.after, Region.binds .any e = true → (listed.setIfInBounds i true).getD e.on true = true := by
      intro j o' hj hq e he hbd
      rw [set_getD hli] at hq ⊢
      split
      · rfl
      · by_cases hij : i = j
        · subst hij
          rw [ho] at hj; cases hj
          exact hlisted e he hbd
        · rw [if_neg hij] at hq
          exact hI.cl j o' hj hq e he hbd
    have hcount : (listed.setIfInBounds i true).toList.count false ≤ fuel := by
      have hf : listed.toList[i]'(by simpa using hli) = false := by
        rw [Array.getD_eq_getD_getElem?, Array.getElem?_eq_getElem hli] at hb
        simpa using hb
      have hpos : 0 < listed.toList.count false := List.count_pos_iff.2 (by rw [← hf]; exact List.getElem_mem _)
      rw [Array.toList_setIfInBounds, List.count_set (by simpa using hli)]
      simp only [hf]
      simp
      have : List.count false listed.toList = Array.count false listed := by simp
      omega
    have hRi := List.all_eq_true.1 hR i (List.mem_range.2 hlt)
    have hwant : Region.wanted o (yielded ops l.toArray) = gs.getD i true := (wanted_of hB hI.len ho hon).trans (hS.want i o ho st w hC hlvi)
    have next : ∀ (st' : S) (u : Value) (w' : World), C st' w' → (∀ j, j < ops.size → j ≠ i → listed.getD j true = true → v st' j = v st j) → (o.dst = none ∨ u = v st' i) → (∀ k, k < eff.length → (listed.setIfInBounds i true).getD (eff.getD k 0) true = dn st' k) →
        wpAny P .any ops Q fuel (listed.setIfInBounds i true) ⟨(putL l o.dst u).toArray, ds⟩ w' := by
      intro st' u w' hC' hsame hv' hst'
      refine ih _ _ _ st' hC' ⟨by simp [hI.size], by rw [putL_len]; exact hI.len, ?_, ?_, ?_, hcl, hst'⟩ hcount
      · intro j hj hlj o' d' ho' hd'
        by_cases hji : j = i
        · subst hji
          rw [ho] at ho'; cases ho'
          rcases hok.d with ⟨_, h0⟩ | ⟨d, h0, hdl⟩
          · rw [h0] at hd'; cases hd'
          · rw [h0] at hd'; cases hd'
            rw [h0, putL, List.getD_eq_getElem?_getD, List.getElem?_set_self (by rw [hI.len]; exact hdl)]
            rcases hv' with h3 | h3
            · rw [h0] at h3; cases h3
            · rw [h3]; rfl
        · have hlj' : listed.getD j true = true := by
            rw [set_getD hli, if_neg (Ne.symm hji)] at hlj; exact hlj
          have h5 := hI.ok j hj hlj' o' d' ho' hd'
          rw [hsame j hj hji hlj']
          rcases hok.d with ⟨_, h0⟩ | ⟨d, h0, hdl⟩
          · rw [h0]; exact h5
          · have hne : d ≠ d' := by
              intro he; subst he
              exact hok.ne j o' d ho' (Ne.symm hji) h0 hd'
            rw [h0, putL, List.getD_eq_getElem?_getD, List.getElem?_set_ne hne, ← List.getD_eq_getElem?_getD]
            exact h5
      · intro d' hd'
        rcases hok.d with ⟨_, h0⟩ | ⟨d, h0, hdl⟩
        · rw [h0]; exact hI.old d' hd'
        · have hne : d ≠ d' := by intro he; subst he; exact hd' i o ho h0
          rw [h0, putL, List.getD_eq_getElem?_getD, List.getElem?_set_ne hne, ← List.getD_eq_getElem?_getD]
          exact hI.old d' hd'
      · intro j o' d' hj hq hd'
        have hne : i ≠ j := by intro h; subst h; rw [set_getD hli, if_pos rfl] at hq; cases hq
        rw [set_getD hli, if_neg hne] at hq
        rcases hok.d with ⟨_, h0⟩ | ⟨d, h0, hdl⟩
        · rw [h0]; exact hI.un j o' d' hj hq hd'
        · have hdd : d ≠ d' := by intro h; subst h; exact hok.ne j o' d hj hne h0 hd'
          rw [h0, putL, List.getD_eq_getElem?_getD, List.getElem?_set_ne hdd, ← List.getD_eq_getElem?_getD]
          exact hI.un j o' d' hj hq hd'
    cases hce : eff.contains i with
    | true =>
      obtain ⟨k, hk, hki⟩ := mem_eff hce
      have hrk : dn st k = false := by rw [← hI.st k hk, hki]; exact hb
      have hd := hS.step k hk o (by rw [hki]; exact ho) st w hC hrk (by rw [hki]; exact hlvi)
      rw [hki] at hd
      rw [← evL_finX (val := v st) hB (sk ++ lateP ops eff D i) hRi ho hon hI.old hun] at hd
      refine hd.wpOp ho (hwant.trans (by rw [← hki]; exact hS.effw k hk)) ?_
      rintro u w' ⟨st', hr1, hr2, hsame, hx, hC'⟩
      refine next st' u w' hC' ?_ hx ?_
      · intro j hj hji hlj
        refine hsame j (fun hm => ?_)
        have := hI.lev hL hF hB j hj hlj k hm hk
        rw [hrk] at this; cases this
      · intro m hm
        rw [set_getD hli]
        by_cases hmk : m = k
        · subst hmk
          rw [if_pos hki.symm, hr1]
        · have hne : ¬ i = eff.getD m 0 := by
            intro h
            exact hmk ((effP_spec hF hk).2 m hm (by rw [← h, hki]))
          rw [if_neg hne, hI.st m hm, hr2 m hmk]
    | false =>
      have hu : ∀ k ∈ U.getD i [], dn st k = false := by
        intro k hk
        have h1 := List.all_eq_true.1 (List.all_eq_true.1 hY i (List.mem_range.2 hlt)) k hk
        simp only [Bool.and_eq_true, decide_eq_true_eq] at h1
        cases hdk : dn st k with
        | false => rfl
        | true =>
          cases ho2 : ops[eff.getD k 0]? with
          | none => rw [ho2] at h1; simp at h1
          | some o2 =>
            rw [ho2] at h1
            obtain ⟨e, he, h3⟩ := Array.any_eq_true'.1 h1.2
            simp only [Bool.and_eq_true, beq_iff_eq] at h3
            have h4 := hI.st k h1.1
            rw [hdk] at h4
            have h5 := hI.cl _ o2 ho2 h4 e he h3.1
            rw [h3.2, hb] at h5; cases h5
      have hd0 := hS.stay i o ho hce st w hC hlvi hu
      have hst : ∀ m, m < eff.length → (listed.setIfInBounds i true).getD (eff.getD m 0) true = dn st m := by
        intro m hm
        rw [set_getD hli, if_neg ?_]
        · exact hI.st m hm
        · intro h
          have := eff_mem (eff := eff) hm
          rw [← h, hce] at this; cases this
      cases hgs : gs.getD i true with
      | false =>
        rw [hgs] at hwant
        unfold Go.wpOp
        rw [ho]
        simp only [hwant, Bool.false_eq_true, if_false]
        rw [put_eq]
        exact next st undef w hC (fun _ _ _ _ => rfl) (.inr (hd0.2 hgs).symm) hst
      | true =>
        have hd := hd0.1 hgs
        rw [← evL_finX (val := v st) hB (sk ++ lateP ops eff D i) hRi ho hon hI.old hun] at hd
        refine hd.nod.wpOp ho (hwant.trans hgs) ?_
        rintro u w' ⟨hvv, hC'⟩
        exact next st u w' hC' (fun _ _ _ _ => rfl) (.inr hvv) hst
end
theorem r_drawnP {P : Program} {f : Fx} {k : List Item} {w : World} {R : Ending → World → Prop} {c : Code} {S : Type} {dn : S → Nat → Bool} {C : S → World → Prop} {v : S → List Value} {l0 : List Value} {id : Nat} (st0 : S) (s n : Nat) (eff : List Nat) (D U : List (List Nat)) (sk : List Nat) (gs : List Bool) (hc : c = .region id (opsOf c) true) (hm : P.follows .mixedOrders = true) (hn : (opsOf c).size = n)
  (hB : okE (opsOf c) l0.length s = true) (hL : levP (opsOf c) eff D = true) (hF : effP (opsOf c) eff = true) (hR : readsP (opsOf c) eff D sk = true) (hY : ubP (opsOf c) eff U = true) (hDk : (D.all fun l => l.all fun k => decide (k < eff.length)) = true) (h0 : ∀ k, k < eff.length → dn st0 k = false) (hC : C st0 w.drew)
  (hW : ∀ i, i < n → ∀ st w, C st w → (∀ k ∈ D.getD i [], dn st k = true) → wantedV (opO c i) (fun j => (v st).getD j undef) = gs.getD i true) (hE : ∀ k, k < eff.length → gs.getD (eff.getD k 0) true = true)
  (h1 : ∀ i, i < n → eff.contains i = false → ∀ st w, C st w → (∀ k ∈ D.getD i [], dn st k = true) → (∀ k ∈ U.getD i [], dn st k = false) → (gs.getD i true = true → Does P (execOp (evL (finX (opsOf c) (fun i => (v st).getD i undef) l0 (sk ++ lateP (opsOf c) eff D i) n)) (opO c i)) False w fun u w' => u = (v st).getD i undef ∧ C st w') ∧ (gs.getD i true = false → (v st).getD i undef = undef))
  (h2 : ∀ k, k < eff.length → ∀ st w, C st w → dn st k = false → (∀ m ∈ D.getD (eff.getD k 0) [], dn st m = true) → Does P (execOp (evL (finX (opsOf c) (fun i => (v st).getD i undef) l0 (sk ++ lateP (opsOf c) eff D (eff.getD k 0)) n)) (opO c (eff.getD k 0))) ((opO c (eff.getD k 0)).dst = none) w fun u w' => ∃ st', dn st' k = true ∧ (∀ m, m ≠ k → dn st' m = dn st m) ∧ (∀ j, k ∉ fullD eff D j → (v st').getD j undef = (v st).getD j undef) ∧ ((opO c (eff.getD k 0)).dst = none ∨ u = (v st').getD (eff.getD k 0) undef) ∧ C st' w')
  (hk : ∀ st w', C st w' → (∀ k, k < eff.length → dn st k = true) → Runs P f k (finX (opsOf c) (fun i => (v st).getD i undef) l0 [] n) w' R) (hro : (bs f).roundOf = none ∨ noDef (opsOf c) = true := by first | exact .inl rfl | exact .inr (by kernel_rfl)) : Runs P f (.code c :: k) l0 w R := by
 subst hn
 have hDk' : ∀ i k, k ∈ D.getD i [] → k < eff.length := by
  intro i k hk
  rcases Nat.lt_or_ge i D.length with h | h
  ·rw [List.getD_eq_getElem?_getD, List.getElem?_eq_getElem h] at hk
   have := List.all_eq_true.1 (List.all_eq_true.1 hDk _ (List.getElem_mem h)) k hk
   simpa using this
  ·rw [List.getD_eq_getElem?_getD, List.getElem?_eq_none h] at hk
   simp at hk
 have hO : ∀ {i : Nat} {o : Oper}, (opsOf c)[i]? = some o → opO c i = o := by intro i o ho; unfold opO; rw [ho]
 rw [hc]
 have hq : wpAny P .any (opsOf c) (fun e a' w' => e = .normal ∧ ∃ l' : List Value, a' = ⟨l'.toArray, f.ds⟩ ∧ Runs P f k l' w' R) (opsOf c).size (Array.replicate (opsOf c).size false) ⟨l0.toArray, f.ds⟩ { w with drawn := w.drawn + 1 } := by
  have hS : StepsP P (opsOf c) dn C (fun st i => (v st).getD i undef) eff D U l0 sk gs := by
   refine ⟨fun i o ho hd st w hw hr hu => ?_, fun i o ho st w hw hr => ?_, hE, fun k hk o ho st w hw hr hm => ?_⟩
   ·rw [← hO ho]; exact h1 i (Array.getElem?_eq_some_iff.1 ho).1 hd st w hw hr hu
   ·rw [← hO ho]; exact hW i (Array.getElem?_eq_some_iff.1 ho).1 st w hw hr
   ·rw [← hO ho]; exact h2 k hk st w hw hr hm
  have hfin : ∀ l w' st, C st w' → (∀ k, k < eff.length → dn st k = true) → l.length = l0.length → (∀ i, i < (opsOf c).size → slotOk (opsOf c) (fun i => (v st).getD i undef) l i) → (∀ d, (∀ (j : Nat) (o' : Oper), (opsOf c)[j]? = some o' → o'.dst ≠ some d) → l.getD d undef = l0.getD d undef) → Runs P f k l w' R := by
   intro l w' st hC' hr e1 e2 e3
   have he : l = finX (opsOf c) (fun i => (v st).getD i undef) l0 [] (opsOf c).size := by
    refine List.ext_getElem? fun d => ?_
    have key : l.getD d undef = (finX (opsOf c) (fun i => (v st).getD i undef) l0 [] (opsOf c).size).getD d undef := by
     by_cases hd : ∃ (j : Nat) (o' : Oper), (opsOf c)[j]? = some o' ∧ o'.dst = some d
     ·obtain ⟨j, o', hj, hd⟩ := hd
      have hjl := (Array.getElem?_eq_some_iff.1 hj).1
      rw [e2 j hjl o' d hj hd]
      exact (finX_at (val := fun i => (v st).getD i undef) hB [] (opsOf c).size (Nat.le_refl _) hjl (by simp) o' d hj hd).symm
     ·have hno : ∀ (j : Nat) (o' : Oper), (opsOf c)[j]? = some o' → o'.dst ≠ some d := fun j o' hj hd' => hd ⟨j, o', hj, hd'⟩
      rw [e3 d hno]
      exact (finX_old [] _ (fun j o' hj hd' => absurd hd' (hno j o' hj))).symm
    by_cases hlt : d < l0.length
    ·rw [List.getD_eq_getElem?_getD, List.getD_eq_getElem?_getD, List.getElem?_eq_getElem (by omega), List.getElem?_eq_getElem (by rw [finX_len]; exact hlt)] at key
     rw [List.getElem?_eq_getElem (by omega), List.getElem?_eq_getElem (by rw [finX_len]; exact hlt)]
     simpa using key
    ·rw [List.getElem?_eq_none (by omega), List.getElem?_eq_none (by rw [finX_len]; omega)]
   rw [he]
   exact hk st w' hC' hr
  refine wpAny_invP (l0 := l0) hB hL hF hR hY hDk' hS (fun l w' x hC' hr e1 e2 e3 => ⟨rfl, l, rfl, hfin l w' x hC' hr e1 e2 e3⟩) _ _ _ _ st0 hC ⟨by simp, rfl, ?_, fun _ _ => rfl, fun _ _ _ _ _ _ => rfl, ?_, ?_⟩ (by simp [Array.toList_replicate])
  ·intro i hi hl
   rw [Array.getD_eq_getD_getElem?, Array.getElem?_eq_getElem (by simpa using hi)] at hl
   simp at hl
  ·intro j o' hj hl
   rw [Array.getD_eq_getD_getElem?, Array.getElem?_eq_getElem (by simpa using (Array.getElem?_eq_some_iff.1 hj).1)] at hl
   simp at hl
  ·intro k hk
   rw [h0 k hk, Array.getD_eq_getD_getElem?, Array.getElem?_eq_getElem (by simpa using (effP_spec hF hk).1)]; simp
 exact runs_region_any hm hro hq
/-! ### .. told over the states that can come about alone; no guards -/
def noGd (ops : Array Oper) : Bool := ops.toList.all fun o => match o.guard with | none => true | some _ => false
def msk (eff : List Nat) (D : List (List Nat)) (k : Nat) : Nat → List Value → List Value
 | _, [] => []
 | j, x :: r => (if (fullD eff D j).contains k then undef else x) :: msk eff D k (j + 1) r
theorem msk_get {eff : List Nat} {D : List (List Nat)} {k : Nat} : ∀ {a b : List Value} {j0 : Nat}, msk eff D k j0 a = msk eff D k j0 b → ∀ j, k ∉ fullD eff D (j0 + j) → a.getD j undef = b.getD j undef
  | [], [], _, _, _, _ => rfl
  | [], y :: b, _, h, _, _ => by simp [msk] at h
  | x :: a, [], _, h, _, _ => by simp [msk] at h
  | x :: a, y :: b, j0, h, j, hj => by
    simp only [msk, List.cons.injEq] at h
    cases j with
    | zero =>
      have hc : ¬ (fullD eff D j0).contains k = true := by simpa using hj
      have h1 := h.1
      rw [if_neg hc, if_neg hc] at h1
      simpa using h1
    | succ j => simpa using msk_get h.2 j (by rw [Nat.add_assoc, Nat.add_comm 1 j]; exact hj)
theorem nB {α : Prop} (h : false = true) : α := Bool.noConfusion h
theorem nC {α : Prop} (h : true = false) : α := Bool.noConfusion h
theorem r_drawnS {P : Program} {f : Fx} {k : List Item} {w : World} {R : Ending → World → Prop} {c : Code} {S : Type} {dl : S → List Bool} {C : S → World → Prop} {v : S → List Value} {l0 : List Value} {id : Nat} (st0 : S) (s n : Nat) (eff : List Nat) (D U : List (List Nat)) (sk : List Nat) (hC : C st0 w.drew)
  (h1 : ∀ i, i < n → eff.contains i = false → ∀ st w, C st w → (∀ k ∈ D.getD i [], (dl st).getD k true = true) → (∀ k ∈ U.getD i [], (dl st).getD k true = false) → Does P (execOp (evL (finX (opsOf c) (fun i => (v st).getD i undef) l0 (sk ++ lateP (opsOf c) eff D i) n)) (opO c i)) False w fun u w' => u = (v st).getD i undef ∧ C st w')
  (h2 : ∀ k, k < eff.length → ∀ st w, C st w → (dl st).getD k true = false → (∀ m ∈ D.getD (eff.getD k 0) [], (dl st).getD m true = true) → Does P (execOp (evL (finX (opsOf c) (fun i => (v st).getD i undef) l0 (sk ++ lateP (opsOf c) eff D (eff.getD k 0)) n)) (opO c (eff.getD k 0))) ((opO c (eff.getD k 0)).dst = none) w fun u w' => ∃ st', dl st' = (dl st).set k true ∧ msk eff D k 0 (v st') = msk eff D k 0 (v st) ∧ ((opO c (eff.getD k 0)).dst = none ∨ u = (v st').getD (eff.getD k 0) undef) ∧ C st' w')
  (hk : ∀ st w', C st w' → (∀ k, k < eff.length → (dl st).getD k true = true) → Runs P f k (finX (opsOf c) (fun i => (v st).getD i undef) l0 [] n) w' R)
  (hc : c = .region id (opsOf c) true := by kernel_rfl) (hm : P.follows .mixedOrders = true := by kernel_rfl) (hn : (opsOf c).size = n := by kernel_rfl) (hB : okE (opsOf c) l0.length s = true := by kernel_rfl) (hL : levP (opsOf c) eff D = true := by kernel_rfl) (hF : effP (opsOf c) eff = true := by kernel_rfl) (hR : readsP (opsOf c) eff D sk = true := by kernel_rfl) (hY : ubP (opsOf c) eff U = true := by kernel_rfl)
  (hDk : (D.all fun l => l.all fun k => decide (k < eff.length)) = true := by kernel_rfl) (hG : noGd (opsOf c) = true := by kernel_rfl) (h0 : dl st0 = List.replicate eff.length false := by kernel_rfl)
  (hro : (bs f).roundOf = none ∨ noDef (opsOf c) = true := by first | exact .inl rfl | exact .inr (by kernel_rfl)) : Runs P f (.code c :: k) l0 w R := by
 have hg : ∀ i, i < n → ∀ (x : Nat → Value), wantedV (opO c i) x = true := by
  intro i hi x
  have hi' : i < (opsOf c).size := by omega
  have ho : (opsOf c)[i]? = some (opsOf c)[i] := Array.getElem?_eq_getElem hi'
  have := List.all_eq_true.1 hG (opsOf c)[i] (Array.mem_toList_iff.2 (Array.getElem_mem hi'))
  have hO : opO c i = (opsOf c)[i] := by unfold opO; rw [ho]
  rw [hO]; unfold wantedV
  cases hq : (opsOf c)[i].guard with
  | none => rfl
  | some y => rw [hq] at this; cases this
 refine r_drawnP (dn := fun st k => (dl st).getD k true) (C := C) (v := v) st0 s n eff D U sk [] hc hm hn hB hL hF hR hY hDk (fun k hk => ?_) hC (fun i hi st w _ _ => ?_) (fun k hk => rfl) (fun i hi he st w hw hd hu => ⟨fun _ => h1 i hi he st w hw hd hu, fun h => ?_⟩) (fun k hk st w hw hr hm => ?_) hk hro
 ·rw [h0]; simp [List.getD_eq_getElem?_getD, hk]
 ·rw [hg i hi]; rfl
 ·exact absurd h (by simp)
 ·have := h2 k hk st w hw hr hm
  refine Does.mono this ?_
  rintro u w' ⟨st', e1, e2, e3, e4⟩
  refine ⟨st', ?_, fun m hm => ?_, fun j hj => msk_get e2 j (by simpa using hj), e3, e4⟩
  ·show (dl st').getD k true = true
   rw [e1, List.getD_eq_getElem?_getD, List.getElem?_set]
   split
   ·split <;> rfl
   ·rename_i h; exact absurd rfl h
  ·show (dl st').getD m true = (dl st).getD m true
   rw [e1, List.getD_eq_getElem?_getD, List.getD_eq_getElem?_getD, List.getElem?_set_ne (Ne.symm hm)]
section
variable {P : Program} {l : List Value} {w : World} {or : Oper} {p : Prop} {Q : World → Prop} {v' : Value}
theorem dQ (v : Value) (hC : Q w) (h : pureSem P (execOp (evL l) or) = some (.value v) := by kernel_rfl) (hv : v = v' := by exact rfl) : Does P (execOp (evL l) or) p w fun u w' => u = v' ∧ Q w' := does_pure h hv hC
theorem dL1 {b o : Nat} {cs : List Value} (t : TypeId) (x : Operand) (j : Nat) (hf : Cells w ⟨b, o, none⟩ cs) (hC : Q w) (ho : or.op = .load t x := by kernel_rfl) (hx : evL l x = .pointer (some ⟨b, o + j, none⟩) := by kernel_rfl) (ha : pureSem P (isAgg t) = some false := by kernel_rfl) (hv : cs[j]? = some v' := by kernel_rfl) :
  Does P (execOp (evL l) or) p w fun u w' => u = v' ∧ Q w' := does_run (x_load hx (loads_at j hf ha hv) ho) rfl hC
theorem dLa {a : Addr} {cs : List Value} (t : TypeId) (x : Operand) (hf : Cells w a cs) (hC : Q w) (ho : or.op = .load t x := by kernel_rfl) (hx : evL l x = .pointer (some a) := by kernel_rfl) (ha : pureSem P (isAgg t) = some true := by kernel_rfl) (hs : pureSem P (sizeOf t) = some cs.length := by kernel_rfl) (hv : .agg cs.toArray = v' := by exact rfl) :
  Does P (execOp (evL l) or) p w fun u w' => u = v' ∧ Q w' := does_run (x_load hx (loads_agg hf ha hs) ho) hv hC
end
section
variable {P : Program} {l : List Value} {w w0 : World} {Z : Zm} {os : List XObj} {or : Oper} {p : Prop} {Post : Value → World → Prop}
theorem does_make {α : Type} {enc : α → List Value} {t e : TypeId} {sz bytes : Nat} {info : TypeInfo} {x y : Operand} {n : Int} {kk kc : IntKind} {z : Value} {x0 : α} (hS : St w0 Z os w) (ho : or.op = .makeSlice t x y) (hx : evL l x = .int kk n) (hy : evL l y = .int kc n) (hu : P.underlying t = some (.slice e)) (hi : P.info? e = some info) (hsize : info.size = sz) (hby : info.bytes = bytes)
  (hz : info.zero = some z) (hzc : z.cells = (enc x0).toArray) (hl : ∀ x, (enc x).length = sz) (hsz : 0 < sz) (hg : 0 ≤ n ∧ n * bytes ≤ 140737488355328) (hb : 0 < bytes)
  (h : ∀ A w', St w0 Z (xrow A n.toNat e sz ((List.replicate n.toNat x0).flatMap enc) :: os) w' → Post (.slice A (List.replicate n.toNat x0).length n.toNat) w') : Does P (execOp (evL l) or) p w Post := by
 obtain ⟨A, w', hr, hs⟩ := make_run (enc := enc) (x0 := x0) hS ho hx hy hu hi hsize hby hz hzc hl hsz hg hb
 have e : Value.slice A n.toNat n.toNat = .slice A (List.replicate n.toNat x0).length n.toNat := by rw [List.length_replicate]
 exact .inl ⟨_, w', hr.trans (by rw [e]), h A w' hs⟩
theorem does_alloc {t : TypeId} {z : Value} {cs : List Value} (hS : St w0 Z os w) (ho : or.op = .alloc t) (hz : pureSem P (zeroValue t) = some z) (hv : z.cells = cs.toArray)
  (h : ∀ b w', St w0 Z (xblk b t cs :: os) w' → Post (.pointer (some ⟨b, 0, none⟩)) w') : Does P (execOp (evL l) or) p w Post :=
 .inl ⟨_, _, x_alloc hz ho, h _ _ (hS.newblk (by rw [hv]; exact new_alloc w _))⟩
theorem does_storeEl {α : Type} [Inhabited α] {enc : α → List Value} {e t : TypeId} {sz cp : Nat} {A : Option Addr} {xs : List α} {x y : Operand} {el el' : α} {j : Int} {off b q : Nat} {v : Value} {vs : List Value} {ad : Addr}
  (hS : St w0 Z (xrow A cp e sz (xs.flatMap enc) :: os) w) (ho : or.op = .store t x y) (hd : p) (hx : evL l x = .pointer (some ad)) (hp : ad = ⟨b, q + j.toNat * sz + off, none⟩) (hy : evL l y = v) (hA : A = some ⟨b, q, none⟩) (hj : 0 ≤ j ∧ j < xs.length) (hel : gt xs j = el)
  (hl : ∀ x, (enc x).length = sz) (hv : v.cells = vs.toArray) (hs : pureSem P (sizeOf t) = some vs.length) (h1 : vs.all Value.oneCell' = true) (hp1 : 0 < vs.length) (hlen : off + vs.length ≤ sz) (he : over (enc el) off vs = enc el')
  (h : ∀ w', St w0 Z (xrow A cp e sz ((setl xs j el').flatMap enc) :: os) w' → Post undef w') : Does P (execOp (evL l) or) p w Post := by
 obtain ⟨w', hr, hs'⟩ := storeEl_run hS ho hx hp hy hA hj hel hl hv hs h1 hp1 hlen he
 exact .inr (.inl ⟨hd, w', hr, h w' hs'⟩)
end
end Go.Proofs.YtcjaknnihjcajaaGreat.K
