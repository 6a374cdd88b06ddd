/- The engine's words for a region that draws its order: reading and quiet calls first, the rest behind (r_drawn3); one effect amidst the others (r_drawnE). -/
import Derived.Test.YtcjaknnihjcajaaGreatN4
import Derived.Orders
set_option linter.unusedVariables false
set_option linter.unusedSimpArgs false
namespace Go.Proofs.YtcjaknnihjcajaaGreat.K
open Go Go.RowKit
def slotOk (ops : Array Oper) (val : Nat → Value) (l : List Value) (i : Nat) : Prop := ∀ o d, ops[i]? = some o → o.dst = some d → l.getD d undef = val i
def clos (ops : Array Oper) : Nat → List (List Nat)
  | 0 => []
  | n + 1 => (fun r => r ++ [(List.range n).filter fun j => match ops[n]? with
    | none => false
    | some o => o.after.any fun e => Region.binds .any e && (e.on == j || (r.getD e.on []).contains j)]) (clos ops n)
def tailB (ops : Array Oper) (s : Nat) : Bool :=
 (List.range ops.size).all fun i => match ops[i]? with
  | none => true
  | some o => o.after.all (fun e => !Region.binds .any e || decide (e.on < i)) && (decide (i < s) || ((List.range i).all fun j => o.after.any fun e => Region.binds .any e && e.on == j) || ((List.range i).all fun j => ((clos ops (i + 1)).getD i []).contains j))
inductive Dep (ops : Array Oper) : Nat → Nat → Prop
 | one {i j : Nat} {o : Oper} {e : Edge} (ho : ops[i]? = some o) (he : e ∈ o.after) (hb : Region.binds .any e = true) (hj : e.on = j) : Dep ops i j
 | more {i j : Nat} {o : Oper} {e : Edge} (ho : ops[i]? = some o) (he : e ∈ o.after) (hb : Region.binds .any e = true) (h : Dep ops e.on j) : Dep ops i j
theorem clos_len (ops : Array Oper) : ∀ n, (clos ops n).length = n
 | 0 => rfl
 | n + 1 => by simp only [clos, List.length_append, List.length_cons, List.length_nil, clos_len ops n]
theorem clos_dep (ops : Array Oper) : ∀ n i j, ((clos ops n).getD i []).contains j = true → Dep ops i j
  | 0, i, j, h => by simp [clos] at h
  | n + 1, i, j, h => by
    simp only [clos] at h
    rcases Nat.lt_trichotomy i n with hi | hi | hi
    · rw [List.getD_eq_getElem?_getD, List.getElem?_append_left (by rw [clos_len]; exact hi), ← List.getD_eq_getElem?_getD] at h
      exact clos_dep ops n i j h
    · subst hi
      rw [List.getD_eq_getElem?_getD, List.getElem?_append_right (by rw [clos_len]; exact Nat.le_refl _), clos_len, Nat.sub_self, List.getElem?_cons_zero, Option.getD_some, List.contains_iff_mem, List.mem_filter] at h
      have h2 := h.2
      cases ho : ops[i]? with
      | none => rw [ho] at h2; cases h2
      | some o =>
        rw [ho] at h2
        obtain ⟨e, he, h3⟩ := Array.any_eq_true'.1 h2
        simp only [Bool.and_eq_true, Bool.or_eq_true] at h3
        rcases h3.2 with h4 | h4
        · exact .one ho he h3.1 (by simpa using h4)
        · exact .more ho he h3.1 (clos_dep ops i e.on j h4)
    · rw [List.getD_eq_getElem?_getD, List.getElem?_eq_none (by simp [clos_len]; omega)] at h
      simp at h
section
variable {P : Program} {ops : Array Oper} {C : World → Prop} {s : Nat}
theorem gd {listed : Array Bool} {j : Nat} (h : j < listed.size) : listed.getD j false = listed.getD j true := by
 rw [Array.getD_eq_getD_getElem?, Array.getD_eq_getD_getElem?, Array.getElem?_eq_getElem h]; rfl
theorem tailB_lt (h : tailB ops s = true) {i : Nat} {o : Oper} (hi : ops[i]? = some o) : ∀ e ∈ o.after, Region.binds .any e = true → e.on < i := by
 have h1 := List.all_eq_true.1 h i (List.mem_range.2 (Array.getElem?_eq_some_iff.1 hi).1)
 simp only [hi, Bool.and_eq_true] at h1
 intro e he hb
 have := Array.all_eq_true'.1 h1.1 e he
 rw [hb] at this
 simpa using this
theorem tailB_all (h : tailB ops s = true) {i : Nat} {o : Oper} (hi : ops[i]? = some o) (hs : s ≤ i) {j : Nat} (hj : j < i) : Dep ops i j := by
 have h1 := List.all_eq_true.1 h i (List.mem_range.2 (Array.getElem?_eq_some_iff.1 hi).1)
 simp only [hi, Bool.and_eq_true, Bool.or_eq_true] at h1
 rcases h1.2 with (h2 | h2) | h2
 ·have : i < s := by simpa using h2
  omega
 ·obtain ⟨e, he, h3⟩ := Array.any_eq_true'.1 (List.all_eq_true.1 h2 j (List.mem_range.2 hj))
  simp only [Bool.and_eq_true] at h3
  exact .one hi he h3.1 (by simpa using h3.2)
 ·exact clos_dep ops _ i j (List.all_eq_true.1 h2 j (List.mem_range.2 hj))
theorem Dep.lt (hB : tailB ops s = true) {i j : Nat} (h : Dep ops i j) : j < i := by
 induction h with
 | one ho he hb hj => rw [← hj]; exact tailB_lt hB ho _ he hb
 | more ho he hb _ ih => exact Nat.lt_trans ih (tailB_lt hB ho _ he hb)
theorem Dep.listed {listed : Array Bool} (hc : ∀ (i : Nat) (o : Oper), ops[i]? = some o → listed.getD i true = true → ∀ e ∈ o.after, Region.binds .any e = true → listed.getD e.on true = true) {i j : Nat} (h : Dep ops i j) : ∀ {o : Oper}, ops[i]? = some o → (∀ e ∈ o.after, Region.binds .any e = true → listed.getD e.on true = true) → listed.getD j true = true := by
  induction h with
  | one ho he hb hj => intro o ho' hall; cases ho.symm.trans ho'; rw [← hj]; exact hall _ he hb
  | @more i j o e ho he hb hd ih =>
    intro o' ho' hall
    cases ho.symm.trans ho'
    have hm := hall _ he hb
    cases hd with
    | one ho2 he2 hb2 hj2 => exact ih ho2 (hc _ _ ho2 hm)
    | more ho2 he2 hb2 hd2 => exact ih ho2 (hc _ _ ho2 hm)
theorem ready_allT {listed : Array Bool} (hB : tailB ops s = true) (hs : listed.size = ops.size) (hr : Region.ready .any ops listed = []) : ∀ i, i < ops.size → listed.getD i true = true := by
  intro i
  induction i using Nat.strongRecOn with
  | _ i ih =>
    intro hi
    cases hb : listed.getD i true with
    | true => rfl
    | false =>
      have ho : ops[i]? = some ops[i] := Array.getElem?_eq_getElem hi
      have hmem : i ∈ Region.ready .any ops listed := by
        refine mem_ready.2 ⟨hb, _, ho, fun e he hbd => ?_⟩
        have hlt := tailB_lt hB ho e he hbd
        rw [gd (by omega)]
        exact ih e.on hlt (by omega)
      rw [hr] at hmem
      cases hmem
theorem go_nil {md : Region.Mode} {fuel t : Nat} {listed : Array Bool} (h : Region.ready md ops listed = []) : Region.linearise.go md ops fuel t listed [] = [] := by
  cases fuel with
  | zero => rfl
  | succ n =>
    simp only [Region.linearise.go]
    change (match (Region.ready md ops listed)[t % (Region.ready md ops listed).length]? with
      | some i => Region.linearise.go md ops n (t / (Region.ready md ops listed).length) (listed.setIfInBounds i true) [i]
      | none => [].reverse) = []
    rw [h]; rfl
theorem go_cons {md : Region.Mode} {fuel t : Nat} {listed : Array Bool} (h : Region.ready md ops listed ≠ []) :
  ∃ i t', i ∈ Region.ready md ops listed ∧ Region.linearise.go md ops (fuel + 1) t listed [] = i :: Region.linearise.go md ops fuel t' (listed.setIfInBounds i true) [] := by
 have hpos : 0 < (Region.ready md ops listed).length := List.length_pos_iff.2 h
 have hlt : t % (Region.ready md ops listed).length < (Region.ready md ops listed).length := Nat.mod_lt _ hpos
 refine ⟨(Region.ready md ops listed)[t % (Region.ready md ops listed).length], t / (Region.ready md ops listed).length, List.getElem_mem _, ?_⟩
 simp only [Region.linearise.go]
 change (match (Region.ready md ops listed)[t % (Region.ready md ops listed).length]? with
   | some i => Region.linearise.go md ops fuel (t / (Region.ready md ops listed).length) (listed.setIfInBounds i true) [i]
   | none => [].reverse) = _
 rw [List.getElem?_eq_getElem hlt]
 simp only
 rw [linearise_go_acc, List.reverse_singleton, List.singleton_append]
theorem set_getD {listed : Array Bool} {i j : Nat} (hi : i < listed.size) : (listed.setIfInBounds i true).getD j true = (if i = j then true else listed.getD j true) := by
 rw [Array.getD_eq_getD_getElem?, Array.getD_eq_getD_getElem?]
 split
 ·rename_i h; subst h; rw [Array.getElem?_setIfInBounds_self_of_lt hi]; rfl
 ·rename_i h; rw [Array.getElem?_setIfInBounds_ne h]
theorem go_tail (hB : tailB ops s = true) (n : Nat) : ∀ (p fuel t : Nat) (listed : Array Bool), p + n = ops.size → s ≤ p → n ≤ fuel → listed.size = ops.size → (∀ j, j < p → listed.getD j true = true) → (∀ j, p ≤ j → j < ops.size → listed.getD j true = false) →
    Region.linearise.go .any ops fuel t listed [] = (List.range ops.size).drop p := by
  induction n with
  | zero =>
    intro p fuel t listed hp hsp hf hs h1 h2
    rw [List.drop_of_length_le (by simp; omega)]
    refine go_nil ?_
    cases hr : Region.ready .any ops listed with
    | nil => rfl
    | cons x xs =>
      have hx : x ∈ Region.ready .any ops listed := by rw [hr]; simp
      obtain ⟨hb, o, ho, _⟩ := mem_ready.1 hx
      rw [h1 x (by have := (Array.getElem?_eq_some_iff.1 ho).1; omega)] at hb
      cases hb
  | succ n ih =>
    intro p fuel t listed hp hsp hf hs h1 h2
    obtain ⟨fuel, rfl⟩ : ∃ m, fuel = m + 1 := ⟨fuel - 1, by omega⟩
    have ho : ops[p]? = some ops[p] := Array.getElem?_eq_getElem (by omega)
    have hmem : p ∈ Region.ready .any ops listed := by
      refine mem_ready.2 ⟨h2 p (Nat.le_refl _) (by omega), _, ho, fun e he hb => ?_⟩
      have := tailB_lt hB ho e he hb
      rw [gd (by omega)]
      exact h1 _ this
    obtain ⟨i, t', hi, hgo⟩ := go_cons (fuel := fuel) (t := t) (List.ne_nil_of_mem hmem)
    obtain ⟨hb, o, hoi, hall⟩ := mem_ready.1 hi
    have hilt := (Array.getElem?_eq_some_iff.1 hoi).1
    have hip : i = p := by
      rcases Nat.lt_trichotomy i p with h3 | h3 | h3
      · rw [h1 i h3] at hb; cases hb
      · exact h3
      · have hcl : ∀ (i : Nat) (o : Oper), ops[i]? = some o → listed.getD i true = true → ∀ e ∈ o.after, Region.binds .any e = true → listed.getD e.on true = true := by
          intro i o ho hl e he hb
          have hlt := tailB_lt hB ho e he hb
          have hi : i < ops.size := (Array.getElem?_eq_some_iff.1 ho).1
          have hip : i < p := by
            rcases Nat.lt_or_ge i p with h | h
            · exact h
            · rw [h2 i h hi] at hl; cases hl
          exact h1 _ (by omega)
        have := (tailB_all hB hoi (by omega) h3).listed hcl hoi (fun e he hbd => by
          have hlt := tailB_lt hB hoi e he hbd
          have := hall e he hbd
          rw [gd (by omega)] at this; exact this)
        rw [h2 p (Nat.le_refl _) (by omega)] at this
        cases this
    subst hip
    rw [hgo, ih (i + 1) fuel t' _ (by omega) (by omega) (by omega) (by simp [hs]) ?_ ?_]
    · have hd : (List.range ops.size).drop i = (List.range ops.size)[i]'(by simpa using hilt) :: (List.range ops.size).drop (i + 1) := List.drop_eq_getElem_cons _
      rw [hd, List.getElem_range]
    · intro j hj
      rw [set_getD (by omega)]
      split
      · rfl
      · exact h1 j (by omega)
    · intro j hj hj2
      rw [set_getD (by omega), if_neg (by omega)]
      exact h2 j (by omega) hj2
variable {f : Fx} {k : List Item} {R : Ending → World → Prop}
theorem quiet_runs {i : Nat} {o : Oper} {l : List Value} {w : World} {rest : List Nat} {K : Act → Prop} (ho : ops[i]? = some o) (hw : wantedL ops l o = true) (hC : C w) (h : o.quiet P ⟨l.toArray, f.ds⟩ C K)
    (hk : ∀ v w', C w' → K ⟨(putL l o.dst v).toArray, f.ds⟩ → Runs P f (.inRegion ops rest :: k) (putL l o.dst v) w' R) : Runs P f (.inRegion ops (i :: rest) :: k) l w R := by
  obtain ⟨v, h1, h2⟩ := h
  have h3 := h1 w hC
  unfold Oper.quietAt at h3
  rw [evL_eq] at h3
  rw [put_eq] at h2
  cases hr : (execOp (evL l) o).run P w with
  | ok n w' =>
    rw [hr] at h3
    cases n <;> simp only [Oper.quietUpon] at h3
    case value u =>
      obtain ⟨rfl, rfl⟩ := h3
      exact runs_op_value ho hw hr (hk _ _ hC h2)
    case skip =>
      obtain ⟨rfl, rfl⟩ := h3
      exact runs_op_done ho hw hr (hk _ _ hC h2)
    case enter g args =>
      obtain ⟨rfl, hc⟩ := h3
      exact runs_op_call ho hw hr hc (fun e w1 hs => ⟨v, hs.1, hk _ _ hs.2 h2⟩)
  | halt x w' => rw [hr] at h3; simp only [Oper.quietUpon] at h3
structure Rel (ops : Array Oper) (s : Nat) (listed listed' : Array Bool) : Prop where
 size : listed.size = ops.size
 size' : listed'.size = s
 same : ∀ j, j < s → listed.getD j true = listed'.getD j true
 rest : ∀ j, s ≤ j → j < ops.size → listed.getD j true = false
 closed : ∀ (i : Nat) (o : Oper), ops[i]? = some o → listed.getD i true = true → ∀ e ∈ o.after, Region.binds .any e = true → listed.getD e.on true = true
def headOps (ops : Array Oper) (s : Nat) : Array Oper := (ops.toList.take s).toArray
theorem head_get {i : Nat} (hi : i < s) : (headOps ops s)[i]? = ops[i]? := by simp [headOps, List.getElem?_take, hi]
theorem head_size (hs : s ≤ ops.size) : (headOps ops s).size = s := by simp [headOps]; omega
theorem wanted_head {l : List Value} {o : Oper} (hg : ∀ g want, o.guard = some (g, want) → g < s) : Region.wanted o (yielded (headOps ops s) l.toArray) = wantedL ops l o := by
  rw [← wanted_eq]
  unfold Region.wanted
  cases hq : o.guard with
  | none => rfl
  | some x =>
    obtain ⟨g, want⟩ := x
    simp only [yielded, head_get (hg g want hq)]
def guardsB (ops : Array Oper) (s : Nat) : Bool := ops.all fun o => match o.guard with | none => true | some (g, _) => decide (g < s)
theorem any_runs (hs : s < ops.size) (hB : tailB ops s = true) (hG : guardsB ops s = true) {Q : Act → Prop} (hQ : ∀ l w, C w → Q ⟨l.toArray, f.ds⟩ → Runs P f (.inRegion ops ((List.range ops.size).drop s) :: k) l w R) :
    ∀ (n fuel t : Nat) (listed listed' : Array Bool) (l : List Value) (w : World), n + (ops.size - s) ≤ fuel → Rel ops s listed listed' → C w → wpAnyQ P .any (headOps ops s) C Q n listed' ⟨l.toArray, f.ds⟩ →
      Runs P f (.inRegion ops (Region.linearise.go .any ops fuel t listed []) :: k) l w R := by
  have hhs := head_size (ops := ops) (s := s) (by omega)
  -- once the first ones are all done
  have done : ∀ (fuel t : Nat) (listed listed' : Array Bool) (l : List Value) (w : World), ops.size - s ≤ fuel → Rel ops s listed listed' → (∀ j, j < s → listed.getD j true = true) → C w → Q ⟨l.toArray, f.ds⟩ → Runs P f (.inRegion ops (Region.linearise.go .any ops fuel t listed []) :: k) l w R := by
    intro fuel t listed listed' l w hf hR hall hC hq
    rw [go_tail hB (ops.size - s) s fuel t listed (by omega) (Nat.le_refl _) hf hR.size hall hR.rest]
    exact hQ l w hC hq
  have nil_all : ∀ listed listed' : Array Bool, Rel ops s listed listed' → Region.ready .any (headOps ops s) listed' = [] → ∀ j, j < s → listed.getD j true = true := by
    intro listed listed' hR hr
    have hBh : ∀ i, i < s → listed'.getD i true = true := by
      intro i
      induction i using Nat.strongRecOn with
      | _ i ih =>
        intro hi
        cases hb : listed'.getD i true with
        | true => rfl
        | false =>
          have ho : ops[i]? = some ops[i] := Array.getElem?_eq_getElem (by omega)
          have hmem : i ∈ Region.ready .any (headOps ops s) listed' := by
            refine mem_ready.2 ⟨hb, _, (head_get hi).trans ho, fun e he hbd => ?_⟩
            have hlt := tailB_lt hB ho e he hbd
            rw [gd (by rw [hR.size']; omega)]
            exact ih e.on hlt (by omega)
          rw [hr] at hmem
          cases hmem
    intro j hj
    rw [hR.same j hj]; exact hBh j hj
  intro n
  induction n with
  | zero =>
    intro fuel t listed listed' l w hf hR hC hW
    exact done fuel t listed listed' l w (by omega) hR (nil_all _ _ hR hW.1) hC hW.2
  | succ n ih =>
    intro fuel t listed listed' l w hf hR hC hW
    by_cases hr' : Region.ready .any (headOps ops s) listed' = []
    · exact done fuel t listed listed' l w (by omega) hR (nil_all _ _ hR hr') hC (hW.1 hr')
    · -- some of the first ones may come up
      have hr : Region.ready .any ops listed ≠ [] := by
        intro h0
        have := ready_allT hB hR.size h0 s hs
        rw [hR.rest s (Nat.le_refl _) hs] at this
        cases this
      obtain ⟨fuel, rfl⟩ : ∃ m, fuel = m + 1 := ⟨fuel - 1, by omega⟩
      obtain ⟨i, t', hi, hgo⟩ := go_cons (fuel := fuel) (t := t) hr
      obtain ⟨hb, o, hoi, hall⟩ := mem_ready.1 hi
      have hilt := (Array.getElem?_eq_some_iff.1 hoi).1
      have his : i < s := by
        rcases Nat.lt_or_ge i s with h | h
        · exact h
        · exfalso
          obtain ⟨x, xs, hx⟩ : ∃ x xs, Region.ready .any (headOps ops s) listed' = x :: xs := by
            cases hq : Region.ready .any (headOps ops s) listed' with
            | nil => exact absurd hq hr'
            | cons x xs => exact ⟨x, xs, rfl⟩
          have hxm : x ∈ Region.ready .any (headOps ops s) listed' := by rw [hx]; simp
          obtain ⟨hbx, ox, hox, _⟩ := mem_ready.1 hxm
          have hxs : x < s := by have := (Array.getElem?_eq_some_iff.1 hox).1; omega
          have := (tailB_all hB hoi h (show x < i by omega)).listed hR.closed hoi (fun e he hbd => by
            have hlt := tailB_lt hB hoi e he hbd
            have := hall e he hbd
            rw [gd (by rw [hR.size]; omega)] at this; exact this)
          rw [hR.same x hxs, hbx] at this
          cases this
      have hmem' : i ∈ Region.ready .any (headOps ops s) listed' := by
        refine mem_ready.2 ⟨by rw [← hR.same i his]; exact hb, o, (head_get his).trans hoi, fun e he hbd => ?_⟩
        have hlt := tailB_lt hB hoi e he hbd
        have := hall e he hbd
        rw [gd (by rw [hR.size]; omega), hR.same _ (by omega)] at this
        rw [gd (by rw [hR.size']; omega)]; exact this
      have hRn : Rel ops s (listed.setIfInBounds i true) (listed'.setIfInBounds i true) := by
        refine ⟨by simp [hR.size], by simp [hR.size'], fun j hj => ?_, fun j hj hj2 => ?_, fun q oq hq hl e he hbd => ?_⟩
        · rw [set_getD (by rw [hR.size]; omega), set_getD (by rw [hR.size']; omega), hR.same j hj]
        · rw [set_getD (by rw [hR.size]; omega), if_neg (by omega)]; exact hR.rest j hj hj2
        · have hlt := tailB_lt hB hq e he hbd
          have hqs : q < ops.size := (Array.getElem?_eq_some_iff.1 hq).1
          rw [set_getD (by rw [hR.size]; omega)] at hl ⊢
          split
          · rfl
          · split at hl
            · rename_i h1 h2
              subst h2
              cases hoi.symm.trans hq
              have := hall e he hbd
              rw [gd (by rw [hR.size]; omega)] at this; exact this
            · exact hR.closed q oq hq hl e he hbd
      have hstep := hW.2 i hmem'
      unfold qOp at hstep
      rw [(head_get his).trans hoi] at hstep
      simp only at hstep
      have hgo2 : ∀ g want, o.guard = some (g, want) → g < s := by
        intro g want hg
        have := Array.all_eq_true'.1 hG o (Array.mem_of_getElem? hoi)
        rw [hg] at this
        simpa using this
      rw [wanted_head hgo2] at hstep
      rw [hgo]
      by_cases hw : wantedL ops l o = true
      · rw [if_pos hw] at hstep
        refine quiet_runs hoi hw hC hstep (fun v w' hC' hK => ?_)
        exact ih fuel t' _ _ _ w' (by omega) hRn hC' hK
      · have hw' : wantedL ops l o = false := by simpa using hw
        rw [if_neg hw, put_eq] at hstep
        exact runs_op_off hoi hw' (ih fuel t' _ _ _ w (by omega) hRn hC hstep)
def hd (c : Code) (s : Nat) : Code := .region 0 (headOps (opsOf c) s) true
theorem r_drawn3 {c : Code} {id : Nat} {C : World → Prop} {l : List Value} {w : World} (hc : c = .region id (opsOf c) true) (hm : P.follows .mixedOrders = true) (s : Nat) (hs : s < (opsOf c).size) (hB : tailB (opsOf c) s = true) (hG : guardsB (opsOf c) s = true) (hL : Region.lexB .any (headOps (opsOf c) s) = true) {is rest : List Nat} (hi : List.range s = is) (hrest : (List.range (opsOf c).size).drop s = rest) (hC : C w.drew)
  (h : Qs P (opsOf (hd c s)) C is l (fun l' => ∀ w', C w' → Runs P f (.inRegion (opsOf c) rest :: k) l' w' R)) : Runs P f (.code c :: k) l w R := by
 have h : Qs P (headOps (opsOf c) s) C is l (fun l' => ∀ w', C w' → Runs P f (.inRegion (opsOf c) rest :: k) l' w' R) := h
 rw [hc]
 subst hi
 subst hrest
 have hsz := head_size (ops := opsOf c) (s := s) (by omega)
 refine Runs.of_step (l' := l) (w' := w.drew) (todo' := .inRegion (opsOf c) (Region.schedule true (opsOf c) (w.tape w.drawn (.order f.fn id))) :: k) (fun cs => by rw [stepR_region_draw, hm]; rfl) ?_
 have h := h.out f.ds
 rw [show List.range s = List.range (headOps (opsOf c) s).size by rw [hsz], filterMap_range] at h
 simp only [Region.lexB, Bool.and_eq_true] at hL
 have hq := wpAnyQ_lex (C := C) (md := .any) hL.1 (headOps (opsOf c) s).toList 0 (Array.replicate (headOps (opsOf c) s).size false) ⟨l.toArray, f.ds⟩ (by simp) (by simpa using hL.2) h
 simp only [Region.schedule, Bool.true_or, if_true, Region.linearise]
 refine any_runs (s := s) (C := C) hs hB hG (Q := fun a => ∀ l' : List Value, a = ⟨l'.toArray, f.ds⟩ → ∀ w', C w' → Runs P f (.inRegion (opsOf c) ((List.range (opsOf c).size).drop s) :: k) l' w' R) (fun l' w' hC' hq => hq l' rfl w' hC') s _ _ _ (Array.replicate s false) l w.drew (by omega) ?_ hC ?_
 ·refine ⟨by simp, by simp, fun j hj => ?_, fun j hj hj2 => ?_, fun q oq hq hl => ?_⟩
  ·rw [Array.getD_eq_getD_getElem?, Array.getD_eq_getD_getElem?, Array.getElem?_eq_getElem (by simp; omega), Array.getElem?_eq_getElem (by simp; omega)]; simp
  ·rw [Array.getD_eq_getD_getElem?, Array.getElem?_eq_getElem (by simp; omega)]; simp
  ·have hqs := (Array.getElem?_eq_some_iff.1 hq).1
   rw [Array.getD_eq_getD_getElem?, Array.getElem?_eq_getElem (by simp; omega)] at hl
   simp at hl
 ·rw [show (headOps (opsOf c) s).toList.length = s from by simpa using hsz, hsz] at hq
  exact hq
end
def okE (ops : Array Oper) (n s : Nat) : Bool :=
  (List.range ops.size).all fun i => match ops[i]? with
    | none => true
    | some o => (match o.guard with | none => true | some (g, _) => o.after.any (fun e => Region.binds .any e && e.on == g) && (match ops[g]? with | none => false | some o' => o'.dst.isSome)) && (match o.dst with | none => true | some d => decide (d < n)) && o.after.all (fun e => !Region.binds .any e || decide (e.on < i)) &&
      (List.range ops.size).all fun j => match ops[j]? with
        | none => true
        | some o' => decide (i = j) || (match o.dst with | none => true | some d => !(o'.dst == some d))
structure OkE (ops : Array Oper) (n s : Nat) (i : Nat) (o : Oper) : Prop where
 g : ∀ g want, o.guard = some (g, want) → (∃ e ∈ o.after, Region.binds .any e = true ∧ e.on = g) ∧ ∃ og d, ops[g]? = some og ∧ og.dst = some d
 d : (True ∧ o.dst = none) ∨ ∃ d, o.dst = some d ∧ d < n
 a : ∀ e ∈ o.after, Region.binds .any e = true → e.on < i
 ne : ∀ j o' d, ops[j]? = some o' → i ≠ j → o.dst = some d → o'.dst ≠ some d
theorem okE_spec {ops : Array Oper} {n s : Nat} (h : okE ops n s = true) {i : Nat} {o : Oper} (hi : ops[i]? = some o) : OkE ops n s i o := by
  have hlt : i < ops.size := (Array.getElem?_eq_some_iff.1 hi).1
  have h1 := List.all_eq_true.1 h i (List.mem_range.2 hlt)
  simp only [hi, Bool.and_eq_true] at h1
  obtain ⟨⟨⟨h2, h3⟩, h4⟩, h5⟩ := h1
  refine ⟨?_, ?_, ?_, ?_⟩
  · intro g want hg
    rw [hg] at h2
    simp only [Bool.and_eq_true] at h2
    obtain ⟨e, he, hb⟩ := Array.any_eq_true'.1 h2.1
    simp only [Bool.and_eq_true, beq_iff_eq] at hb
    refine ⟨⟨e, he, hb.1, hb.2⟩, ?_⟩
    have h6 := h2.2
    cases hog : ops[g]? with
    | none => rw [hog] at h6; simp at h6
    | some og =>
      rw [hog] at h6
      simp only at h6
      obtain ⟨d, hd⟩ := Option.isSome_iff_exists.1 h6
      exact ⟨og, d, rfl, hd⟩
  · cases hd : o.dst with
    | none => rw [hd] at h3; exact .inl ⟨trivial, rfl⟩
    | some d => rw [hd] at h3; simp at h3; exact .inr ⟨d, rfl, h3⟩
  · intro e he hb
    have := Array.all_eq_true'.1 h4 e he
    rw [hb] at this
    simpa using this
  · intro j o' d hj hne hd hd'
    have hjl : j < ops.size := (Array.getElem?_eq_some_iff.1 hj).1
    have := List.all_eq_true.1 h5 j (List.mem_range.2 hjl)
    simp only [hj, Bool.or_eq_true] at this
    rcases this with h6 | h6
    · exact hne (by simpa using h6)
    · rw [hd] at h6; simp [hd'] at h6
def finX (ops : Array Oper) (val : Nat → Value) (l0 : List Value) (sk : List Nat) : Nat → List Value
  | 0 => l0
  | m + 1 => match (ops[m]?).bind (·.dst), sk.contains m with
    | some d, false => (finX ops val l0 sk m).set d (val m)
    | _, _ => finX ops val l0 sk m
def readsAt (ops : Array Oper) (sk : List Nat) (i : Nat) : Bool := match ops[i]? with
    | none => true
    | some o => (match o.op with | .select .. => false | _ => true) && o.op.operands.all fun x => match x with
      | .tmp t => o.after.any (fun e => Region.binds .any e && !sk.contains e.on && (match ops[e.on]? with | some o' => o'.dst == some t | none => false)) ||
          (List.range ops.size).all fun j => match ops[j]? with
            | none => true
            | some o' => !(o'.dst == some t) || (sk.contains j && o'.after.any (fun e => Region.binds .any e && e.on == i))
      | _ => true
def Unwr (ops : Array Oper) (l0 l : List Value) (i : Nat) : Prop := ∀ (j : Nat) (o' : Oper) (d : Nat), ops[j]? = some o' → o'.dst = some d → (∃ e ∈ o'.after, Region.binds .any e = true ∧ e.on = i) → l.getD d undef = l0.getD d undef
section
variable {P : Program} {ops : Array Oper} {val : Nat → Value} {l0 : List Value} {s : Nat}
theorem finX_len (sk : List Nat) (m : Nat) : (finX ops val l0 sk m).length = l0.length := by
 induction m with
 | zero => rfl
 | succ m ih => unfold finX; split <;> simp [ih]
theorem finX_old (sk : List Nat) (m : Nat) {d : Nat} (h : ∀ (j : Nat) (o' : Oper), ops[j]? = some o' → o'.dst = some d → sk.contains j = true) : (finX ops val l0 sk m).getD d undef = l0.getD d undef := by
  induction m with
  | zero => rfl
  | succ m ih =>
    unfold finX
    split
    · rename_i d' hd' hsk
      have hne : d' ≠ d := by
        intro he; subst he
        cases ho : ops[m]? with
        | none => rw [ho] at hd'; cases hd'
        | some o => rw [ho] at hd'; have := h m o ho hd'; rw [this] at hsk; cases hsk
      rw [List.getD_eq_getElem?_getD, List.getElem?_set_ne hne, ← List.getD_eq_getElem?_getD]; exact ih
    · exact ih
theorem finX_at (hB : okE ops l0.length s = true) (sk : List Nat) (m : Nat) (hm : m ≤ ops.size) {i : Nat} (hi : i < m) (hsk : sk.contains i = false) : slotOk ops val (finX ops val l0 sk m) i := by
  induction m with
  | zero => omega
  | succ m ih =>
    intro o d ho hd
    have hok := okE_spec hB ho
    have hom : ops[m]? = some ops[m] := Array.getElem?_eq_getElem (by omega)
    have hdl : d < l0.length := by
      rcases hok.d with ⟨_, h0⟩ | ⟨d', h1, h2⟩
      · rw [hd] at h0; cases h0
      · rw [hd] at h1; cases h1; exact h2
    unfold finX
    split
    · rename_i dm hdm hskm
      by_cases he : i = m
      · subst he
        rw [ho] at hdm
        simp only [Option.bind_some] at hdm
        rw [hd] at hdm; cases hdm
        rw [List.getD_eq_getElem?_getD, List.getElem?_set_self (by rw [finX_len]; exact hdl)]; rfl
      · have hne : dm ≠ d := by
          intro h1; subst h1
          rw [hom] at hdm
          exact hok.ne m _ dm hom he hd hdm
        rw [List.getD_eq_getElem?_getD, List.getElem?_set_ne hne, ← List.getD_eq_getElem?_getD]
        exact ih (by omega) (by omega) o d ho hd
    · rename_i hno
      have he : i ≠ m := by
        intro h; subst h
        rw [ho] at hno
        simp only [Option.bind_some] at hno
        exact hno d hd hsk
      exact ih (by omega) (by omega) o d ho hd
theorem evL_finX (hB : okE ops l0.length s = true) (sk : List Nat) {i : Nat} (hR : readsAt ops sk i = true) {o : Oper} (ho : ops[i]? = some o) {l : List Value} (hon : ∀ e ∈ o.after, Region.binds .any e = true → slotOk ops val l e.on) (hold : ∀ d, (∀ (j : Nat) (o' : Oper), ops[j]? = some o' → o'.dst ≠ some d) → l.getD d undef = l0.getD d undef) (hun : Unwr ops l0 l i) :
    execOp (evL l) o = execOp (evL (finX ops val l0 sk ops.size)) o := by
  have hlt : i < ops.size := (Array.getElem?_eq_some_iff.1 ho).1
  have h1 := hR
  unfold readsAt at h1
  simp only [ho, Bool.and_eq_true] at h1
  obtain ⟨hsel, h2⟩ := h1
  refine execOp_congr o (fun cs b hc => by rw [hc] at hsel; simp at hsel) (fun x hx => ?_)
  have h3 := Array.all_eq_true'.1 h2 x hx
  cases x with
  | tmp t =>
    simp only [Bool.or_eq_true] at h3
    simp only [evL]
    rcases h3 with h3 | h3
    · obtain ⟨e, he, h4⟩ := Array.any_eq_true'.1 h3
      simp only [Bool.and_eq_true] at h4
      obtain ⟨⟨h4, h6⟩, h5⟩ := h4
      cases hq : ops[e.on]? with
      | none => rw [hq] at h5; simp at h5
      | some o' =>
        rw [hq] at h5
        have hd : o'.dst = some t := by simpa using h5
        rw [hon e he h4 o' t hq hd]
        exact (finX_at hB sk ops.size (Nat.le_refl _) (Array.getElem?_eq_some_iff.1 hq).1 (by simpa using h6) o' t hq hd).symm
    · have hall : ∀ (j : Nat) (o' : Oper), ops[j]? = some o' → o'.dst = some t → sk.contains j = true ∧ ∃ e ∈ o'.after, Region.binds .any e = true ∧ e.on = i := by
        intro j o' hj hd
        have := List.all_eq_true.1 h3 j (List.mem_range.2 (Array.getElem?_eq_some_iff.1 hj).1)
        simp only [hj, hd, Bool.or_eq_true, Bool.and_eq_true] at this
        rcases this with h7 | ⟨h7, h8⟩
        · simp at h7
        · obtain ⟨e, he, h9⟩ := Array.any_eq_true'.1 h8
          simp only [Bool.and_eq_true] at h9
          exact ⟨h7, e, he, h9.1, by simpa using h9.2⟩
      rw [finX_old sk ops.size (fun j o' hj hd => (hall j o' hj hd).1)]
      by_cases hex : ∃ (j : Nat) (o' : Oper), ops[j]? = some o' ∧ o'.dst = some t
      · obtain ⟨j, o', hj, hd⟩ := hex
        exact hun j o' t hj hd (hall j o' hj hd).2
      · exact hold t (fun j o' hj hd => hex ⟨j, o', hj, hd⟩)
  | const v => rfl
  | global g => rfl
  | func g => rfl
variable {X : Type} {C : Option X → World → Prop} {v0 : Nat → Value} {v1 : X → Nat → Value} {dl sk : List Nat} {Q : Exit → Act → World → Prop}
theorem ready_allE {listed : Array Bool} {n : Nat} (hB : okE ops n s = true) (hs : listed.size = ops.size) (hr : Region.ready .any ops listed = []) : ∀ i, i < ops.size → listed.getD i true = true := by
  intro i
  induction i using Nat.strongRecOn with
  | _ i ih =>
    intro hi
    cases hb : listed.getD i true with
    | true => rfl
    | false =>
      have ho : ops[i]? = some ops[i] := Array.getElem?_eq_getElem hi
      have hmem : i ∈ Region.ready .any ops listed := by
        refine mem_ready.2 ⟨hb, _, ho, fun e he hbd => ?_⟩
        have hlt := (okE_spec hB ho).a e he hbd
        rw [gd (by omega)]
        exact ih e.on hlt (by omega)
      rw [hr] at hmem
      cases hmem
def Does (P : Program) (sem : Sem Next) (nod : Prop) (w : World) (Post : Value → World → Prop) : Prop :=
 (∃ v w', sem.run P w = .ok (.value v) w' ∧ Post v w') ∨ (nod ∧ ∃ w', sem.run P w = .ok .skip w' ∧ Post undef w') ∨ (∃ g args, sem.run P w = .ok (.enter g args) w ∧ Calls P g args w fun e w' => ∃ v, e = .returned v ∧ Post v w')
theorem Does.wpOp {ds : List Deferred} {i : Nat} {o : Oper} {l : List Value} {w : World} {K : Act → World → Prop} {Post : Value → World → Prop} (ho : ops[i]? = some o) (hw : Region.wanted o (yielded ops l.toArray) = true) (h : Does P (execOp (evL l) o) (o.dst = none) w Post)
  (hK : ∀ v w', Post v w' → K ⟨(putL l o.dst v).toArray, ds⟩ w') : wpOp P ops Q i K ⟨l.toArray, ds⟩ w := by
 unfold Go.wpOp
 rw [ho]
 simp only [hw, if_true]
 refine .inl ?_
 unfold Oper.wp
 rw [evL_eq]
 rcases h with ⟨v, w', hr, hp⟩ | ⟨hn, w', hr, hp⟩ | ⟨g, args, hr, hc⟩
 ·rw [hr, Oper.upon_value, put_eq]; exact hK v w' hp
 ·rw [hr, Oper.upon_skip, put_eq]; exact hK undef w' hp
 ·rw [hr, Oper.upon_enter]
  refine hc.mono ?_
  rintro e w' ⟨v, rfl, hp⟩
  change K ((⟨l.toArray, ds⟩ : Act).put o.dst v) w'
  rw [put_eq]
  exact hK v w' hp
def wantedV (o : Oper) (val : Nat → Value) : Bool := match o.guard with
 | none => true
 | some (g, want) => match val g with | .bool b => b == want | _ => false
theorem wanted_of {n : Nat} {val : Nat → Value} {l : List Value} {i : Nat} {o : Oper} (hB : okE ops n s = true) (hl : l.length = n) (ho : ops[i]? = some o) (hon : ∀ e ∈ o.after, Region.binds .any e = true → slotOk ops val l e.on) : Region.wanted o (yielded ops l.toArray) = wantedV o val := by
  rw [wanted_eq]
  unfold wantedL wantedV
  cases hg : o.guard with
  | none => rfl
  | some x =>
    obtain ⟨g, want⟩ := x
    obtain ⟨⟨e, he, hb, heq⟩, og, d, hog, hd⟩ := (okE_spec hB ho).g g want hg
    have h1 := hon e he hb
    rw [heq] at h1
    have h2 := h1 og d hog hd
    have hdl : d < l.length := by
      rcases (okE_spec hB hog).d with ⟨_, h0⟩ | ⟨d', h0, h3⟩
      · rw [hd] at h0; cases h0
      · rw [hd] at h0; cases h0; exact hl ▸ h3
    rw [List.getD_eq_getElem?_getD, List.getElem?_eq_getElem hdl] at h2
    simp only [Option.getD_some] at h2
    simp only [yieldedL, hog, Option.bind_some, hd, List.getElem?_eq_getElem hdl, h2]
    cases val g <;> rfl
theorem Does.nod {sem : Sem Next} {w : World} {Post : Value → World → Prop} {p : Prop} (h : Does P sem False w Post) : Does P sem p w Post := by
 rcases h with h | ⟨h, _⟩ | h
 ·exact .inl h
 ·exact h.elim
 ·exact .inr (.inr h)
end
end Go.Proofs.YtcjaknnihjcajaaGreat.K
