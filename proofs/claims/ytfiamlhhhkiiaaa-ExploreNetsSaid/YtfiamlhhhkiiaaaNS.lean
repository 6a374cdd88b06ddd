/- slices.SortFunc on a row of the call's own: it is sorted as core's mergeSort sorts it, where the comparison parts any two elements. -/
import Derived.Test.YtfiamlhhhkiiaaaN9
import Derived.Shelf.SlSortCmp.NoneTotal
set_option linter.unusedVariables false
set_option linter.unusedSimpArgs false
set_option linter.unusedSectionVars false
namespace Go.Proofs.Ytfiamlhhhkiiaaa.K
open Go Go.RowKit Go.Shelf Go.Sort Go.Lib

/-- The order that a comparison tells is a total one. -/
def CmpOk {α : Type} (cmp : α → α → Option Int) (cf : α → α → Int) : Prop := SWO (ltOf cf) ∧ (∀ x y, ltOf cf x y = false → ltOf cf y x = false → x = y) ∧ ∀ x y, cmp x y = some (cf x y)
open Classical in
noncomputable def sortO {α : Type} (cmp : α → α → Option Int) (xs : List α) : Option (List α) :=
  if h : ∃ cf, CmpOk cmp cf then some (xs.mergeSort fun x y => !(ltOf h.choose y x)) else none
theorem sortO_eq {α : Type} {cmp : α → α → Option Int} {cf : α → α → Int} (h : CmpOk cmp cf) (xs : List α) : sortO cmp xs = some (xs.mergeSort fun x y => !(ltOf cf y x)) := by
  have hex : ∃ cf, CmpOk cmp cf := ⟨cf, h⟩
  have he : hex.choose = cf := by
    funext x y
    have h1 := hex.choose_spec.2.2 x y
    rw [h.2.2 x y] at h1
    exact (Option.some.inj h1).symm
  unfold sortO
  rw [dif_pos hex, he]
theorem sortO_len {α : Type} {cmp : α → α → Option Int} {xs ys : List α} (h : sortO cmp xs = some ys) : ys.length = xs.length := by
  unfold sortO at h
  split at h
  · rw [← Option.some.inj h]; exact List.length_mergeSort _
  · cases h

theorem fr_grow {w w' : World} (h : Fr0 w w') : ∃ q os, w' = grow (w.drewN q) os := by
  refine ⟨w'.drawn - w.drawn, w'.heap.extract w.heap.size w'.heap.size, ?_⟩
  obtain ⟨h1, h2, h3, h4, h5, h6⟩ := h
  cases w with
  | mk heap tape drawn os output =>
    cases w' with
    | mk heap' tape' drawn' os' output' =>
      simp only at h1 h2 h3 h4 h5 h6
      subst h1; subst h2; subst h3
      simp only [grow, World.drewN]
      congr 1
      · apply Array.ext_getElem?
        intro i
        rw [Array.getElem?_append]
        by_cases hi : i < heap.size
        · rw [if_pos hi, h5 i hi (fun f => f)]
        · rw [if_neg hi, Array.getElem?_extract]
          by_cases hj : i < heap'.size
          · rw [if_pos (by omega), show heap.size + (i - heap.size) = i by omega]
          · rw [if_neg (by omega), Array.getElem?_eq_none (by omega)]
      · omega
theorem grow_fr (w : World) (n : Nat) (os : Array Obj) : Fr0 w (grow (w.drewN n) os) :=
  ⟨rfl, rfl, rfl, by simp [grow, World.drewN], fun k hk _ => by simp only [grow, World.drewN]; rw [Array.getElem?_append_left hk], by simp [grow, World.drewN]⟩

section
variable {α : Type} [Inhabited α] {enc : α → List Value} {k : Nat}
theorem flatK_list (hk : ∀ x, (enc x).length = k) (hk0 : 0 < k) (xs : List α) : (flatK enc k xs.toArray).toList = xs.flatMap enc := by
  apply List.ext_getElem?
  intro t
  by_cases ht : t < xs.length * k
  · have hq : t / k < xs.length := Nat.div_lt_of_lt_mul (by rw [Nat.mul_comm]; exact ht)
    have hr : t % k < k := Nat.mod_lt _ hk0
    obtain ⟨hm, hl⟩ := flat_mid hk (List.getElem?_eq_getElem hq)
    have h1 := get_flatK enc k xs.toArray t (by simpa using ht)
    have hsz : t < (flatK enc k xs.toArray).size := by simpa using ht
    rw [getElem!_pos _ t hsz] at h1
    rw [hm, List.getElem?_append_right (by rw [hl]; exact Nat.div_mul_le_self t k), hl, show t - t / k * k = t % k by rw [Nat.mod_eq_sub_div_mul], List.getElem?_append_left (by rw [hk]; exact hr)]
    rw [Array.getElem?_toList, Array.getElem?_eq_getElem hsz, h1, getElem!_pos xs.toArray (t / k) (by simpa using hq)]
    have : t % k < (enc xs[t / k]).length := by rw [hk]; exact hr
    simp [List.getElem?_eq_getElem, this]
  · rw [List.getElem?_eq_none (by simp; omega), List.getElem?_eq_none (by rw [flat_len hk]; omega)]
theorem putCells_list {c : List Value} {pre old post new : List Value} (hc : c = pre ++ (old ++ post)) (hl : new.length = old.length) : putCells id pre.length new.toArray c.toArray = (pre ++ (new ++ post)).toArray := by
  apply Array.ext_getElem?
  intro i
  simp only [putCells, Array.getElem?_mapIdx, List.getElem?_toArray, List.size_toArray, id]
  subst hc
  by_cases h1 : i < pre.length
  · rw [List.getElem?_append_left h1, List.getElem?_append_left h1]
    cases pre[i]? with
    | none => rfl
    | some v => simp only [Option.map_some]; rw [if_neg (by omega)]
  · have e1 : ∀ l : List Value, (pre ++ l)[i]? = l[i - pre.length]? := fun l => List.getElem?_append_right (by omega)
    rw [e1, e1]
    by_cases h2 : i - pre.length < new.length
    · have e2 : (old ++ post)[i - pre.length]? = some old[i - pre.length] := by rw [List.getElem?_append_left (by omega)]; exact List.getElem?_eq_getElem (by omega)
      have e3 : (new ++ post)[i - pre.length]? = some new[i - pre.length] := by rw [List.getElem?_append_left h2]; exact List.getElem?_eq_getElem h2
      rw [e2, e3]
      simp only [Option.map_some]
      rw [if_pos (by omega), getElem!_pos _ _ (by simpa using h2)]
      simp
    · have e2 : (old ++ post)[i - pre.length]? = post[i - pre.length - old.length]? := List.getElem?_append_right (by omega)
      have e3 : (new ++ post)[i - pre.length]? = post[i - pre.length - old.length]? := by rw [List.getElem?_append_right (by omega), hl]
      rw [e2, e3]
      cases post[i - pre.length - old.length]? with
      | none => rfl
      | some v => simp only [Option.map_some]; rw [if_neg (by omega)]
variable {w w0 : World} {Z : Zm} {os : List XObj} {A : Option Addr} {cp : Nat} {e : TypeId} {xs : List α}
theorem heap_grow_lt {w : World} (os : Array Obj) {b : Nat} (h : b < w.heap.size) : (grow w os).heap[b]? = w.heap[b]? := by simp only [grow]; rw [Array.getElem?_append_left h]
theorem sortWorld_row (hk : ∀ x, (enc x).length = k) (hk0 : 0 < k) {b : Nat} {pre tail : List Value} (hB : Blk w b e (pre ++ (xs.flatMap enc ++ tail))) (n : Nat) (ob : Array Obj) (dk : List α) (hd : dk.length = xs.length) :
    FrP (· = b) w (sortWorldK enc k w b pre.length n dk.toArray ob) ∧ Blk (sortWorldK enc k w b pre.length n dk.toArray ob) b e (pre ++ (dk.flatMap enc ++ tail)) := by
  have hlt := hB.lt
  have hF : (flatK enc k dk.toArray) = (dk.flatMap enc).toArray := by apply Array.ext'; rw [flatK_list hk hk0]
  unfold sortWorldK putRowK putRow
  rw [hF]
  have hheap : ∀ j, (mapBlock (Sort.ahead w n) b (putCells id pre.length (dk.flatMap enc).toArray)).heap[j]? = if b = j then some (.cells (pre ++ (dk.flatMap enc ++ tail)).toArray e (0, 0)) else w.heap[j]? := by
    intro j
    simp only [mapBlock, Sort.ahead, Array.getElem?_modify]
    by_cases hj : b = j
    · subst hj
      have hB' : w.heap[b]? = _ := hB
      rw [if_pos rfl, if_pos rfl, hB']
      simp only [Option.map_some, onCells]
      rw [putCells_list rfl (by rw [flat_len hk, flat_len hk, hd])]
    · rw [if_neg hj, if_neg hj]
  have hs : (mapBlock (Sort.ahead w n) b (putCells id pre.length (dk.flatMap enc).toArray)).heap.size = w.heap.size := by simp [mapBlock, Sort.ahead]
  refine ⟨⟨rfl, rfl, rfl, ?_, fun j hj hne => ?_, ?_⟩, ?_⟩
  · simp only [grow, Array.size_append, hs]; omega
  · rw [heap_grow_lt _ (by rw [hs]; exact hj), hheap, if_neg (fun h => hne h.symm)]
  · simp [grow, mapBlock, Sort.ahead]
  · show (grow _ _).heap[b]? = _
    rw [heap_grow_lt _ (by rw [hs]; exact hlt), hheap, if_pos rfl]
theorem sortWorld_St (hk : ∀ x, (enc x).length = k) (hk0 : 0 < k) {b : Nat} {pre tail : List Value} (hS : St w0 Z (xrow (some ⟨b, pre.length, none⟩) cp e k (xs.flatMap enc) :: os) w) (hB : Blk w b e (pre ++ (xs.flatMap enc ++ tail))) (h3 : (xs.flatMap enc).length + tail.length = cp * k) (h4 : 0 < cp) (h5 : cp ≤ 9223372036854775807)
    (n : Nat) (ob : Array Obj) (dk : List α) (hd : dk.length = xs.length) : St w0 Z (xrow (some ⟨b, pre.length, none⟩) cp e k (dk.flatMap enc) :: os) (sortWorldK enc k w b pre.length n dk.toArray ob) := by
  obtain ⟨hf, hb⟩ := sortWorld_row hk hk0 hB n ob dk hd
  exact hS.turn (X' := xrow _ cp e k (dk.flatMap enc)) (hf.mono (fun j _ hj => ⟨h4, _, rfl, hj.symm⟩)) (.inr ⟨b, pre, tail, rfl, hb, by rw [flat_len hk, hd, ← flat_len hk]; exact h3, h4, h5⟩) (fun b hb => .inl hb) (fun _ _ _ _ h => h.elim) (fun _ _ _ _ h => h.elim)
theorem blk_holds (hk : ∀ x, (enc x).length = k) (hk0 : 0 < k) {b : Nat} {pre tail : List Value} (hB : Blk w b e (pre ++ (xs.flatMap enc ++ tail))) : HoldsK enc k w b pre.length xs.toArray := by
  intro j hj
  have hF : (flatK enc k xs.toArray) = (xs.flatMap enc).toArray := by apply Array.ext'; rw [flatK_list hk hk0]
  rw [hF] at hj ⊢
  have hB' : w.heap[b]? = _ := hB
  simp only [List.size_toArray] at hj
  constructor
  · simp only [World.cell?, hB', id]
    rw [getElem!_pos _ _ (by simpa using hj)]
    simp [List.getElem?_append_right, List.getElem?_append_left hj, List.getElem?_eq_getElem hj]
  · simp only [World.frozen?, hB']
    simp
end
section
variable {α : Type} [Inhabited α] {enc : α → List Value} {k : Nat} {P : Program} {ρ : Ren} {w w0 : World} {Z : Zm} {os : List XObj} {A : Option Addr} {cp : Nat} {e : TypeId} {xs ys : List α}
theorem sort_calls (L : SlLaysF0.n6 P ρ) (aE : pureSem P (isAgg (ρ.t 24)) = some true) (zE : pureSem P (sizeOf (ρ.t 24)) = some k) (hk : ∀ x, (enc x).length = k) (h1 : ∀ x, (enc x).all Value.oneCell' = true) (hk0 : 0 < k) {cmp : α → α → Option Int} {g : Nat} {cb : Array Value}
    (eg : ∀ args w, (callFunc g args).run P w = .ok (.enter g args) w) (hS : St w0 Z (xrow A cp e k (xs.flatMap enc) :: os) w)
    (hcmp : ∀ x y r W, (∃ dk : List α, dk.length = xs.length ∧ St w0 Z (xrow A cp e k (dk.flatMap enc) :: os) W) → cmp x y = some r → Calls P g (#[.agg (enc x).toArray, .agg (enc y).toArray] ++ cb) W fun e w' => e = .returned (.int .i64 r) ∧ Fr0 W w')
    (hn : xs.length < 4611686018427387904) (hs : sortO cmp xs = some ys) :
    Calls P (ρ.f 6) #[.slice A xs.length cp, .func (.func g) #[] cb] w fun e' w' => e' = .returned (.tuple #[]) ∧ St w0 Z (xrow A cp e k (ys.flatMap enc) :: os) w' := by
  have hex : ∃ cf, CmpOk cmp cf := by
    unfold sortO at hs
    split at hs
    · assumption
    · cases hs
  obtain ⟨cf, hc⟩ := hex
  rw [sortO_eq hc] at hs
  have hys := Option.some.inj hs
  cases hx : xs with
  | nil =>
    subst hx
    obtain rfl : ys = [] := by rw [← hys]; simp
    exact (Go.Proofs.AnyF.slices_SortFunc_none L A cp _ w).mono fun e' w' h => ⟨h.1, h.2 ▸ hS⟩
  | cons x0 xr =>
    rw [← hx]
    have hlen : 0 < xs.length := by rw [hx]; simp
    have hr : RowIn A cp e k (xs.flatMap enc) w := hS.hd
    have hcap := hr.cap hk hk0
    rcases hr with ⟨h3, -⟩ | ⟨b, pre, tail, hA, hB, h3, h4, h5⟩
    · omega
    subst hA
    have hT := Go.Proofs.AnyQ.slices_SortFunc_total L k (fun w => pureSem_run aE) (fun w => pureSem_run zE) enc hk (fun x => List.all_eq_true.1 (h1 x)) cf hc.1 g cb b pre.length cp xs.toArray w eg
      (fun m ob dk hd x y => by
        have hd' : dk.toList.length = xs.length := by simpa using hd
        have hSt := sortWorld_St hk hk0 hS hB h3 h4 h5 m ob dk.toList hd'
        rw [Array.toArray_toList] at hSt
        refine (hcmp x y (cf x y) _ ⟨_, hd', hSt⟩ (hc.2.2 x y)).mono ?_
        rintro e' w' ⟨he, hf⟩
        exact ⟨he, fr_grow hf⟩)
      (blk_holds hk hk0 hB) hB.lt (by simpa using hn) hc.2.1
    simp only [List.size_toArray] at hT
    refine hT.mono ?_
    rintro e' w' ⟨he, n, ob, hw⟩
    refine ⟨he, ?_⟩
    rw [hw, hys]
    exact sortWorld_St hk hk0 hS hB h3 h4 h5 n ob ys (by rw [← hys]; exact List.length_mergeSort _)
theorem St.start0 (w : World) : St w ⟨fun _ _ _ => False, fun _ _ => False, True⟩ [] w := ⟨FrB.refl _ _, (fun _ => Nat.le_refl _), fun _ _ _ h => h.elim, fun _ _ h => h.elim, by simp, by simp, List.Pairwise.nil, by simp, by simp⟩
/-- .. with a comparison that holds nothing. -/
theorem sort_calls0 (L : SlLaysF0.n6 P ρ) (aE : pureSem P (isAgg (ρ.t 24)) = some true) (zE : pureSem P (sizeOf (ρ.t 24)) = some k) (hk : ∀ x, (enc x).length = k) (h1 : ∀ x, (enc x).all Value.oneCell' = true) (hk0 : 0 < k) {cmp : α → α → Option Int} {g : Nat}
    (eg : ∀ args w, (callFunc g args).run P w = .ok (.enter g args) w) (hS : St w0 Z (xrow A cp e k (xs.flatMap enc) :: os) w)
    (hcmp : ∀ x y r W, cmp x y = some r → Calls P g #[.agg (enc x).toArray, .agg (enc y).toArray] W fun e w' => e = .returned (.int .i64 r) ∧ Fr0 W w')
    (hn : xs.length < 4611686018427387904) (hs : sortO cmp xs = some ys) :
    Calls P (ρ.f 6) #[.slice A xs.length cp, .func (.func g) #[] #[]] w fun e' w' => e' = .returned (.tuple #[]) ∧ St w0 Z (xrow A cp e k (ys.flatMap enc) :: os) w' :=
  sort_calls L aE zE hk h1 hk0 eg hS (fun x y r W _ h => by rw [Array.append_empty]; exact hcmp x y r W h) hn hs
/-! ### .. where the comparison parts the row's own elements alone -/
noncomputable def sortR {α : Type} (cmp : α → α → Option Int) (xs : List α) : Option (List α) := (sortO (fun x y : {x // x ∈ xs} => cmp x.1 y.1) xs.attach).map (·.map (·.1))
theorem attach_flat {α β : Type} (enc : α → List β) (xs : List α) : xs.attach.flatMap (fun x => enc x.1) = xs.flatMap enc := by
  have : xs.attach.flatMap (fun x => enc x.1) = (xs.attach.map (·.1)).flatMap enc := by rw [List.flatMap_map]
  rw [this, List.attach_map_subtype_val]
theorem sortR_len {α : Type} {cmp : α → α → Option Int} {xs ys : List α} (h : sortR cmp xs = some ys) : ys.length = xs.length := by
  unfold sortR at h
  obtain ⟨zs, h1, rfl⟩ := Option.map_eq_some_iff.1 h
  rw [List.length_map, sortO_len h1, List.length_attach]
theorem sort_callsR (L : SlLaysF0.n6 P ρ) (aE : pureSem P (isAgg (ρ.t 24)) = some true) (zE : pureSem P (sizeOf (ρ.t 24)) = some k) (hk : ∀ x, (enc x).length = k) (h1 : ∀ x, (enc x).all Value.oneCell' = true) (hk0 : 0 < k) {cmp : α → α → Option Int} {g : Nat}
    (eg : ∀ args w, (callFunc g args).run P w = .ok (.enter g args) w) (hS : St w0 Z (xrow A cp e k (xs.flatMap enc) :: os) w)
    (hcmp : ∀ x y r W, cmp x y = some r → Calls P g #[.agg (enc x).toArray, .agg (enc y).toArray] W fun e w' => e = .returned (.int .i64 r) ∧ Fr0 W w')
    (hn : xs.length < 4611686018427387904) (hs : sortR cmp xs = some ys) :
    Calls P (ρ.f 6) #[.slice A xs.length cp, .func (.func g) #[] #[]] w fun e' w' => e' = .returned (.tuple #[]) ∧ St w0 Z (xrow A cp e k (ys.flatMap enc) :: os) w' := by
  unfold sortR at hs
  obtain ⟨zs, hz, rfl⟩ := Option.map_eq_some_iff.1 hs
  by_cases hx : xs = []
  · subst hx
    have : zs = [] := List.eq_nil_of_length_eq_zero (by rw [sortO_len hz]; rfl)
    subst this
    exact (Go.Proofs.AnyF.slices_SortFunc_none L A cp _ w).mono fun e' w' h => ⟨h.1, h.2 ▸ hS⟩
  · haveI : Inhabited {x // x ∈ xs} := ⟨⟨xs.head hx, List.head_mem hx⟩⟩
    have hS' : St w0 Z (xrow A cp e k (xs.attach.flatMap (fun x => enc x.1)) :: os) w := by rw [attach_flat]; exact hS
    have := sort_calls0 (α := {x // x ∈ xs}) (enc := fun x => enc x.1) L aE zE (fun x => hk x.1) (fun x => h1 x.1) hk0 eg hS' (fun x y r W h => hcmp x.1 y.1 r W h) (by rw [List.length_attach]; exact hn) hz
    rw [List.length_attach] at this
    refine this.mono ?_
    rintro e' w' ⟨he, hS2⟩
    refine ⟨he, ?_⟩
    rw [List.flatMap_map]
    exact hS2
end
end Go.Proofs.Ytfiamlhhhkiiaaa.K
