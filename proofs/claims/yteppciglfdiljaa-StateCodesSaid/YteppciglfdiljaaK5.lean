/- The engine's words for a region that draws its order and whose operations may turn the world within a class: each operation's value is the same in every order. -/
import Derived.Test.YteppciglfdiljaaK4
import Derived.Orders
set_option linter.unusedVariables false
set_option linter.unusedSimpArgs false
namespace Go.Proofs.Yteppciglfdiljaa.K
open Go Go.RowKit

def slotOk (ops : Array Oper) (val : Nat → Value) (l : List Value) (i : Nat) : Prop := ∀ o d, ops[i]? = some o → o.dst = some d → l.getD d undef = val i
/-- No guards; each writes a temporary that is there, each its own; each waits for earlier ones alone. -/
def okB (ops : Array Oper) (n : Nat) : Bool :=
  (List.range ops.size).all fun i => match ops[i]? with
    | none => true
    | some o => (match o.guard with | none => true | some _ => false) && (match o.dst with | none => false | some d => decide (d < n)) && o.after.all (fun e => !Region.binds .any e || decide (e.on < i)) &&
      (List.range ops.size).all fun j => match ops[j]? with
        | none => true
        | some o' => decide (i = j) || !(o.dst == o'.dst)
structure OkAt (ops : Array Oper) (n : Nat) (i : Nat) (o : Oper) : Prop where
  g : o.guard = none
  d : ∃ d, o.dst = some d ∧ d < n
  a : ∀ e ∈ o.after, Region.binds .any e = true → e.on < i
  ne : ∀ j o', ops[j]? = some o' → i ≠ j → o.dst ≠ o'.dst
theorem okB_spec {ops : Array Oper} {n : Nat} (h : okB ops n = true) {i : Nat} {o : Oper} (hi : ops[i]? = some o) : OkAt ops n i o := by
  have hlt : i < ops.size := (Array.getElem?_eq_some_iff.1 hi).1
  have h1 := List.all_eq_true.1 h i (List.mem_range.2 hlt)
  simp only [hi, Bool.and_eq_true] at h1
  obtain ⟨⟨⟨h2, h3⟩, h4⟩, h5⟩ := h1
  refine ⟨?_, ?_, ?_, ?_⟩
  · cases hg : o.guard with
    | none => rfl
    | some x => rw [hg] at h2; simp at h2
  · cases hd : o.dst with
    | none => rw [hd] at h3; simp at h3
    | some d => rw [hd] at h3; exact ⟨d, rfl, by simpa using h3⟩
  · intro e he hb
    have := Array.all_eq_true'.1 h4 e he
    rw [hb] at this
    simpa using this
  · intro j o' hj hne hd
    have hjl : j < ops.size := (Array.getElem?_eq_some_iff.1 hj).1
    have := List.all_eq_true.1 h5 j (List.mem_range.2 hjl)
    simp only [hj, Bool.or_eq_true] at this
    rcases this with h6 | h6
    · exact hne (by simpa using h6)
    · rw [hd] at h6; simp at h6

section
variable {P : Program} {ops : Array Oper} {Q : Exit → Act → World → Prop} {C : World → Prop} {val : Nat → Value} {l0 : List Value}
def Steps (P : Program) (ops : Array Oper) (C : World → Prop) (val : Nat → Value) (l0 : List Value) : Prop :=
  ∀ i o, ops[i]? = some o → ∀ l w, C w → (∀ e ∈ o.after, Region.binds .any e = true → slotOk ops val l e.on) → (∀ d, (∀ (j : Nat) (o' : Oper), ops[j]? = some o' → o'.dst ≠ some d) → l.getD d undef = l0.getD d undef) →
    ∃ w', (execOp (evL l) o).run P w = .ok (.value (val i)) w' ∧ C w'
structure DInv (ops : Array Oper) (val : Nat → Value) (l0 : List Value) (listed : Array Bool) (l : List Value) : Prop where
  size : listed.size = ops.size
  len : l.length = l0.length
  ok : ∀ i, i < ops.size → listed.getD i true = true → slotOk ops val l i
  old : ∀ d, (∀ (j : Nat) (o' : Oper), ops[j]? = some o' → o'.dst ≠ some d) → l.getD d undef = l0.getD d undef
theorem ready_all {listed : Array Bool} (hB : okB ops l0.length = true) (hs : listed.size = ops.size) (hr : Region.ready .any ops listed = []) : ∀ i, i < ops.size → listed.getD i true = true := by
  intro i
  induction i using Nat.strongRecOn with
  | _ i ih =>
    intro hi
    cases hb : listed.getD i true with
    | true => rfl
    | false =>
      have ho : ops[i]? = some ops[i] := Array.getElem?_eq_getElem hi
      have hok := okB_spec hB ho
      have hmem : i ∈ Region.ready .any ops listed := by
        refine mem_ready.2 ⟨hb, _, ho, fun e he hbd => ?_⟩
        have hlt := hok.a e he hbd
        have := ih e.on hlt (by omega)
        rw [Array.getD_eq_getD_getElem?] at this ⊢
        rw [Array.getElem?_eq_getElem (by omega)] at this ⊢
        simpa using this
      rw [hr] at hmem
      cases hmem
theorem wpAny_inv (hB : okB ops l0.length = true) (hS : Steps P ops C val l0) (hQ : ∀ l w, C w → l.length = l0.length → (∀ i, i < ops.size → slotOk ops val l i) → (∀ d, (∀ (j : Nat) (o' : Oper), ops[j]? = some o' → o'.dst ≠ some d) → l.getD d undef = l0.getD d undef) → Q .normal ⟨l.toArray, []⟩ w) :
    ∀ (fuel : Nat) (listed : Array Bool) (l : List Value) (w : World), C w → DInv ops val l0 listed l → listed.toList.count false ≤ fuel → wpAny P .any ops Q fuel listed ⟨l.toArray, []⟩ w := by
  intro fuel
  induction fuel with
  | zero =>
    intro listed l w hC hI hc
    have hall : ∀ i, i < ops.size → listed.getD i true = true := by
      intro i hi
      cases hb : listed.getD i true with
      | true => rfl
      | false =>
        have h0 : listed.toList.count false = 0 := by omega
        rw [List.count_eq_zero] at h0
        refine absurd ?_ h0
        rw [Array.getD_eq_getD_getElem?, Array.getElem?_eq_getElem (by rw [hI.size]; exact hi)] at hb
        simp only [Option.getD_some] at hb
        rw [← hb]
        simp
    refine ⟨?_, hQ l w hC hI.len (fun i hi => hI.ok i hi (hall i hi)) hI.old⟩
    cases hr : Region.ready .any ops listed with
    | nil => rfl
    | cons x xs =>
      have hx : x ∈ Region.ready .any ops listed := by rw [hr]; simp
      obtain ⟨h1, o, ho, _⟩ := mem_ready.1 hx
      rw [hall x (Array.getElem?_eq_some_iff.1 ho).1] at h1
      cases h1
  | succ fuel ih =>
    intro listed l w hC hI hc
    refine ⟨fun hr => hQ l w hC hI.len (fun i hi => hI.ok i hi (ready_all hB hI.size hr i hi)) hI.old, fun i hi => ?_⟩
    obtain ⟨hb, o, ho, hall⟩ := mem_ready.1 hi
    have hlt : i < ops.size := (Array.getElem?_eq_some_iff.1 ho).1
    have hok := okB_spec hB ho
    obtain ⟨d, hd, hdl⟩ := hok.d
    have hon : ∀ e ∈ o.after, Region.binds .any e = true → slotOk ops val l e.on := by
      intro e he hbd
      have h1 := hall e he hbd
      have h2 := hok.a e he hbd
      refine hI.ok e.on (by omega) ?_
      rw [Array.getD_eq_getD_getElem?] at h1 ⊢
      rw [Array.getElem?_eq_getElem (by rw [hI.size]; omega)] at h1 ⊢
      simpa using h1
    obtain ⟨w', hrun, hC'⟩ := hS i o ho l w hC hon hI.old
    unfold wpOp
    rw [ho]
    have hw : Region.wanted o (yielded ops l.toArray) = true := by
      unfold Region.wanted; rw [hok.g]
    simp only [hw, if_true]
    refine .inl ?_
    unfold Oper.wp
    rw [evL_eq, hrun, Oper.upon_value, put_eq]
    have hset : putL l o.dst (val i) = l.set d (val i) := by rw [hd]; rfl
    refine ih _ _ _ hC' ⟨by simp [hI.size], by rw [putL_len]; exact hI.len, ?_, ?_⟩ ?_
    · intro j hj hlj o' d' ho' hd'
      by_cases hji : j = i
      · subst hji
        rw [ho] at ho'; cases ho'
        rw [hd] at hd'; cases hd'
        rw [hset, List.getD_eq_getElem?_getD, List.getElem?_set_self (by rw [hI.len]; exact hdl)]; rfl
      · have hne : d ≠ d' := by
          intro he; subst he
          exact hok.ne j o' ho' (Ne.symm hji) (hd.trans hd'.symm)
        rw [hset, List.getD_eq_getElem?_getD, List.getElem?_set_ne hne, ← List.getD_eq_getElem?_getD]
        refine hI.ok j hj ?_ o' d' ho' hd'
        rw [Array.getD_eq_getD_getElem?] at hlj ⊢
        rw [Array.getElem?_setIfInBounds_ne (Ne.symm hji)] at hlj
        exact hlj
    · intro d' hd'
      have hne : d ≠ d' := by intro he; subst he; exact hd' i o ho hd
      rw [hset, List.getD_eq_getElem?_getD, List.getElem?_set_ne hne, ← List.getD_eq_getElem?_getD]
      exact hI.old d' hd'
    · have hli : i < listed.size := by rw [hI.size]; exact hlt
      have hf : listed.toList[i]'(by simpa using hli) = false := by
        rw [Array.getD_eq_getD_getElem?, Array.getElem?_eq_getElem hli] at hb
        simpa using hb
      have hpos : 0 < listed.toList.count false := List.count_pos_iff.2 (by rw [← hf]; exact List.getElem_mem _)
      rw [Array.toList_setIfInBounds, List.count_set (by simpa using hli)]
      simp only [hf]
      simp
      have : List.count false listed.toList = Array.count false listed := by simp
      omega
end
theorem runs_drawn {P : Program} {f : FuncId} {k : List Item} {w : World} {R : Ending → World → Prop} {ops : Array Oper} {C : World → Prop} {val : Nat → Value} {l0 : List Value} {id : Nat} (hm : P.follows .mixedOrders = true) (hB : okB ops l0.length = true) (hC : C w.drew)
    (hS : Steps P ops C val l0)
    (h : ∀ l w', C w' → l.length = l0.length → (∀ i, i < ops.size → slotOk ops val l i) → (∀ d, (∀ (j : Nat) (o' : Oper), ops[j]? = some o' → o'.dst ≠ some d) → l.getD d undef = l0.getD d undef) → Runs P f k l w' R) : Runs P f (.code (.region id ops true) :: k) l0 w R := by
  have hq : (Code.region id ops true).wp P (fun e a' w' => e = .normal ∧ ∃ l' : List Value, a' = ⟨l'.toArray, []⟩ ∧ Runs P f k l' w' R) ⟨l0.toArray, []⟩ w := by
    refine wp_region_any hm ?_
    refine wpAny_inv (l0 := l0) hB hS (fun l w' hC' h1 h2 h3 => ⟨rfl, l, rfl, h l w' hC' h1 h2 h3⟩) _ _ _ _ hC ⟨by simp, rfl, ?_, fun _ _ => rfl⟩ (by simp [Array.toList_replicate])
    intro i hi hl
    rw [Array.getD_eq_getD_getElem?, Array.getElem?_eq_getElem (by simpa using hi)] at hl
    simp at hl
  intro cs
  obtain ⟨e, a', w', ⟨rfl, l', rfl, hr⟩, harr⟩ := hq (bs f) k cs
  obtain ⟨e2, w2, fr, hR, hc, hf, hl⟩ := hr cs
  exact ⟨e2, w2, fr, hR, .of_steps harr hc, hf, hl⟩

/-! ### All told over one list: the temporaries as they stand at the region's end -/
def finN (ops : Array Oper) (val : Nat → Value) (l0 : List Value) : Nat → List Value
  | 0 => l0
  | m + 1 => match (ops[m]?).bind (·.dst) with
    | some d => (finN ops val l0 m).set d (val m)
    | none => finN ops val l0 m
def readsB (ops : Array Oper) : Bool :=
  (List.range ops.size).all fun i => match ops[i]? with
    | none => true
    | some o => (match o.op with | .select .. => false | _ => true) && o.op.operands.all fun x => match x with
      | .tmp t => o.after.any (fun e => Region.binds .any e && (match ops[e.on]? with | some o' => o'.dst == some t | none => false)) || ops.all (fun o' => !(o'.dst == some t))
      | _ => true
section
variable {P : Program} {ops : Array Oper} {C : World → Prop} {val : Nat → Value} {l0 : List Value}
theorem finN_len (m : Nat) : (finN ops val l0 m).length = l0.length := by
  induction m with
  | zero => rfl
  | succ m ih => unfold finN; split <;> simp [ih]
theorem finN_old (m : Nat) {d : Nat} (h : ∀ (j : Nat) (o' : Oper), ops[j]? = some o' → o'.dst ≠ some d) : (finN ops val l0 m).getD d undef = l0.getD d undef := by
  induction m with
  | zero => rfl
  | succ m ih =>
    unfold finN
    split
    · rename_i d' hd'
      have hne : d' ≠ d := by
        intro he; subst he
        cases ho : ops[m]? with
        | none => rw [ho] at hd'; cases hd'
        | some o => rw [ho] at hd'; exact h m o ho hd'
      rw [List.getD_eq_getElem?_getD, List.getElem?_set_ne hne, ← List.getD_eq_getElem?_getD]; exact ih
    · exact ih
theorem finN_at (hB : okB ops l0.length = true) (m : Nat) (hm : m ≤ ops.size) {i : Nat} (hi : i < m) : slotOk ops val (finN ops val l0 m) i := by
  induction m with
  | zero => omega
  | succ m ih =>
    intro o d ho hd
    have hok := okB_spec hB ho
    obtain ⟨d0, hd0, hdl⟩ := hok.d
    rw [hd] at hd0; cases hd0
    have hom : ops[m]? = some ops[m] := Array.getElem?_eq_getElem (by omega)
    obtain ⟨dm, hdm, hdml⟩ := (okB_spec hB hom).d
    have hb : (ops[m]?).bind (·.dst) = some dm := by rw [hom]; exact hdm
    unfold finN
    rw [hb]
    simp only
    by_cases he : i = m
    · subst he
      rw [hom] at ho; cases ho
      rw [hd] at hdm; cases hdm
      rw [List.getD_eq_getElem?_getD, List.getElem?_set_self (by rw [finN_len]; exact hdl)]; rfl
    · have hne : dm ≠ d := by
        intro h1; subst h1
        exact hok.ne m _ hom he (hd.trans hdm.symm)
      rw [List.getD_eq_getElem?_getD, List.getElem?_set_ne hne, ← List.getD_eq_getElem?_getD]
      exact ih (by omega) (by omega) o d ho hd
theorem steps_fin (hB : okB ops l0.length = true) (hR : readsB ops = true)
    (h : ∀ i o, ops[i]? = some o → ∀ w, C w → ∃ w', (execOp (evL (finN ops val l0 ops.size)) o).run P w = .ok (.value (val i)) w' ∧ C w') : Steps P ops C val l0 := by
  intro i o ho l w hC hon hold
  have hlt : i < ops.size := (Array.getElem?_eq_some_iff.1 ho).1
  have h1 := List.all_eq_true.1 hR i (List.mem_range.2 hlt)
  simp only [ho, Bool.and_eq_true] at h1
  obtain ⟨hsel, h2⟩ := h1
  have hcg : execOp (evL l) o = execOp (evL (finN ops val l0 ops.size)) o := by
    refine execOp_congr o (fun cs b hc => by rw [hc] at hsel; simp at hsel) (fun x hx => ?_)
    have h3 := Array.all_eq_true'.1 h2 x hx
    cases x with
    | tmp t =>
      simp only [Bool.or_eq_true] at h3
      simp only [evL]
      rcases h3 with h3 | h3
      · obtain ⟨e, he, h4⟩ := Array.any_eq_true'.1 h3
        simp only [Bool.and_eq_true] at h4
        obtain ⟨h4, h5⟩ := h4
        cases hq : ops[e.on]? with
        | none => rw [hq] at h5; simp at h5
        | some o' =>
          rw [hq] at h5
          have hd : o'.dst = some t := by simpa using h5
          rw [hon e he h4 o' t hq hd]
          exact (finN_at hB ops.size (Nat.le_refl _) (Array.getElem?_eq_some_iff.1 hq).1 o' t hq hd).symm
      · have hno : ∀ (j : Nat) (o' : Oper), ops[j]? = some o' → o'.dst ≠ some t := by
          intro j o' hj hd
          have := Array.all_eq_true'.1 h3 o' (Array.mem_of_getElem? hj)
          rw [hd] at this
          simp at this
        rw [hold t hno]
        exact (finN_old ops.size hno).symm
    | const v => rfl
    | global g => rfl
    | func g => rfl
  rw [hcg]
  exact h i o ho w hC
end
theorem r_drawn {P : Program} {f : FuncId} {k : List Item} {w : World} {R : Ending → World → Prop} {c : Code} {C : World → Prop} {vs lf : List Value} {l0 : List Value} {id : Nat} (hc : c = .region id (opsOf c) true) (hm : P.follows .mixedOrders = true) (hB : okB (opsOf c) l0.length = true) (hR : readsB (opsOf c) = true)
    (hl : finN (opsOf c) (fun i => vs.getD i undef) l0 (opsOf c).size = lf) (hC : C w.drew)
    (h : ∀ i, i < (opsOf c).size → ∀ w, C w → ∃ w', (execOp (evL lf) (opO c i)).run P w = .ok (.value (vs.getD i undef)) w' ∧ C w')
    (hk : ∀ w', C w' → Runs P f k lf w' R) : Runs P f (.code c :: k) l0 w R := by
  rw [hc]
  refine runs_drawn (val := fun i => vs.getD i undef) hm hB hC (steps_fin hB hR (fun i o ho w hw => ?_)) (fun l w' hC' h1 h2 h3 => ?_)
  · rw [hl]
    have := h i (Array.getElem?_eq_some_iff.1 ho).1 w hw
    unfold opO at this
    rw [ho] at this
    exact this
  · have he : l = lf := by
      rw [← hl]
      refine List.ext_getElem? fun d => ?_
      have key : l.getD d undef = (finN (opsOf c) (fun i => vs.getD i undef) l0 (opsOf c).size).getD d undef := by
        by_cases hd : ∃ (j : Nat) (o' : Oper), (opsOf c)[j]? = some o' ∧ o'.dst = some d
        · obtain ⟨j, o', hj, hd⟩ := hd
          have hjl := (Array.getElem?_eq_some_iff.1 hj).1
          rw [h2 j hjl o' d hj hd]
          exact (finN_at (val := fun i => vs.getD i undef) hB (opsOf c).size (Nat.le_refl _) hjl o' d hj hd).symm
        · have hno : ∀ (j : Nat) (o' : Oper), (opsOf c)[j]? = some o' → o'.dst ≠ some d := fun j o' hj hd' => hd ⟨j, o', hj, hd'⟩
          rw [h3 d hno]
          exact (finN_old _ hno).symm
      by_cases hlt : d < l0.length
      · rw [List.getD_eq_getElem?_getD, List.getD_eq_getElem?_getD, List.getElem?_eq_getElem (by omega), List.getElem?_eq_getElem (by rw [finN_len]; exact hlt)] at key
        rw [List.getElem?_eq_getElem (by omega), List.getElem?_eq_getElem (by rw [finN_len]; exact hlt)]
        simpa using key
      · rw [List.getElem?_eq_none (by omega), List.getElem?_eq_none (by rw [finN_len]; omega)]
    rw [he]
    exact hk w' hC'
end Go.Proofs.Yteppciglfdiljaa.K
