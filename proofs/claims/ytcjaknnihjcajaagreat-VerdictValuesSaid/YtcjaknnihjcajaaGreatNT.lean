/- slices.Sort on a row of texts of the call's own. -/
import Derived.Test.YtcjaknnihjcajaaGreatN9
import Derived.Shelf.Sort.Plain
import Derived.Shelf.Slices.In.SortNone
set_option linter.unusedVariables false
set_option linter.unusedSimpArgs false
set_option linter.unusedSectionVars false
namespace Go.Proofs.YtcjaknnihjcajaaGreat.K
open Go Go.RowKit Go.Shelf Go.Sort Go.Lib
def leS (x y : ByteArray) : Bool := decide (x.data.toList ≤ y.data.toList)
def sortS (xs : List ByteArray) : List ByteArray := xs.mergeSort leS
theorem sortS_len (xs : List ByteArray) : (sortS xs).length = xs.length := List.length_mergeSort _
def bytesOf (x : ByteArray) : List UInt8 := x.data.toList
theorem encStr_bytes (x : ByteArray) : encStr (bytesOf x) = .string x := by
 cases x with | mk d => rfl
theorem sortS_bytes (xs : List ByteArray) : (xs.map bytesOf).mergeSort (fun x y => decide (x ≤ y)) = (sortS xs).map bytesOf := by
 unfold sortS
 exact (List.map_mergeSort (f := bytesOf) (r := leS) (s := fun x y => decide (x ≤ y)) (fun a _ b _ => rfl)).symm
section
variable {P : Program} {ρ : Ren} {w w0 : World} {Z : Zm} {os : List XObj} {A : Option Addr} {cp : Nat} {e : TypeId} {xs : List ByteArray}
theorem flatS (xs : List ByteArray) : xs.flatMap encS = xs.map Value.string := by
 induction xs with
 | nil => rfl
 | cons x xs ih => rw [List.flatMap_cons, ih]; rfl
theorem putStr_list {c : List Value} {pre post : List Value} {xs ys : List ByteArray} (hc : c = pre ++ (xs.map Value.string ++ post)) (hl : ys.length = xs.length) :
  putCells encStr pre.length (ys.map bytesOf).toArray c.toArray = (pre ++ (ys.map Value.string ++ post)).toArray := by
 apply Array.ext_getElem?
 intro i
 simp only [putCells, Array.getElem?_mapIdx, List.getElem?_toArray, List.size_toArray, List.length_map]
 subst hc
 by_cases h1 : i < pre.length
 ·rw [List.getElem?_append_left h1, List.getElem?_append_left h1]
  cases pre[i]? with
  | none => rfl
  | some v => simp only [Option.map_some]; rw [if_neg (by omega)]
 ·have e1 : ∀ l : List Value, (pre ++ l)[i]? = l[i - pre.length]? := fun l => List.getElem?_append_right (by omega)
  rw [e1, e1]
  by_cases h2 : i - pre.length < ys.length
  ·rw [List.getElem?_append_left (by rw [List.length_map]; omega), List.getElem?_append_left (by rw [List.length_map]; exact h2)]
   rw [List.getElem?_map, List.getElem?_map, List.getElem?_eq_getElem (by omega : i - pre.length < xs.length), List.getElem?_eq_getElem h2]
   simp only [Option.map_some]
   rw [if_pos (by omega), getElem!_pos _ _ (by simpa using h2)]
   simp only [List.getElem_toArray, List.getElem_map, encStr_bytes]
  ·rw [List.getElem?_append_right (by rw [List.length_map]; omega), List.getElem?_append_right (by rw [List.length_map]; omega), List.length_map, List.length_map, hl]
   cases post[i - pre.length - xs.length]? with
   | none => rfl
   | some v => simp only [Option.map_some]; rw [if_neg (by omega)]
theorem sortS_calls (L : Lays.n190 P ρ) (hS : St w0 Z (xrow A cp e 1 (xs.flatMap encS) :: os) w) (hn : xs.length < 4611686018427387904) :
  Calls P (ρ.f 190) #[.slice A xs.length cp] w fun e' w' => e' = .returned (.tuple #[]) ∧ St w0 Z (xrow A cp e 1 ((sortS xs).flatMap encS) :: os) w' := by
 by_cases hx : xs = []
 ·subst hx
  have : sortS [] = [] := List.eq_nil_of_length_eq_zero (sortS_len [])
  rw [this]
  exact (Any.slices_Sort_string_none L A cp w).mono fun e' w' h => ⟨h.1, h.2 ▸ hS⟩
 ·have hlen : 0 < xs.length := List.length_pos_iff.2 hx
  have hr : RowIn A cp e 1 (xs.flatMap encS) w := hS.hd
  have hcap := hr.cap (fun _ => rfl) (by omega)
  rcases hr with ⟨h3, -⟩ | ⟨b, pre, tail, hA, hB, h3, h4, h5⟩
  ·omega
  subst hA
  rw [flatS] at hB h3
  have hB' : w.heap[b]? = some (.cells (pre ++ (xs.map Value.string ++ tail)).toArray e (0, 0)) := hB
  have hH : Holds encStr w b pre.length (xs.map bytesOf).toArray := by
   intro j hj
   simp only [List.size_toArray, List.length_map] at hj
   constructor
   ·simp only [World.cell?, hB']
    rw [getElem!_pos _ _ (by simpa using hj)]
    simp only [List.getElem_toArray, List.getElem_map, encStr_bytes, List.getElem?_toArray]
    rw [List.getElem?_append_right (by omega), Nat.add_sub_cancel_left, List.getElem?_append_left (by rw [List.length_map]; exact hj), List.getElem?_map, List.getElem?_eq_getElem hj]
    rfl
   ·simp only [World.frozen?, hB']
    simp
  have hT := Any.slices_Sort_string L b pre.length cp (xs.map bytesOf) w hH hB.lt (by rw [List.length_map]; exact hn)
  rw [List.length_map, sortS_bytes] at hT
  refine hT.mono ?_
  rintro e' w' ⟨he, n, ob, hw⟩
  refine ⟨he, ?_⟩
  have hlt := hB.lt
  have hheap : ∀ j, (putRow encStr (Sort.ahead w n) b pre.length ((sortS xs).map bytesOf).toArray).heap[j]? = if b = j then some (.cells (pre ++ ((sortS xs).map Value.string ++ tail)).toArray e (0, 0)) else w.heap[j]? := by
   intro j
   simp only [putRow, mapBlock, Sort.ahead, Array.getElem?_modify]
   by_cases hj : b = j
   ·subst hj
    rw [if_pos rfl, if_pos rfl, hB']
    simp only [Option.map_some, onCells]
    rw [putStr_list rfl (sortS_len xs)]
   ·rw [if_neg hj, if_neg hj]
  have hs : (putRow encStr (Sort.ahead w n) b pre.length ((sortS xs).map bytesOf).toArray).heap.size = w.heap.size := by simp [putRow, mapBlock, Sort.ahead]
  have grow_lt : ∀ {v : World} (os : Array Obj) {b : Nat}, b < v.heap.size → (grow v os).heap[b]? = v.heap[b]? := fun {v} os {b} h => by simp only [grow]; rw [Array.getElem?_append_left h]
  have hf : FrP (· = b) w w' := by
   rw [hw]
   refine ⟨rfl, rfl, rfl, ?_, fun j hj hne => ?_, ?_⟩
   ·simp only [grow, Array.size_append, hs]; omega
   ·rw [grow_lt _ (by rw [hs]; exact hj), hheap, if_neg (fun h => hne h.symm)]
   ·simp [grow, putRow, mapBlock, Sort.ahead]
  have hb : Blk w' b e (pre ++ ((sortS xs).flatMap encS ++ tail)) := by
   rw [hw, flatS]
   show (grow _ _).heap[b]? = _
   rw [grow_lt _ (by rw [hs]; exact hlt), hheap, if_pos rfl]
  exact hS.turn (X' := xrow _ cp e 1 ((sortS xs).flatMap encS)) (hf.mono (fun j _ hj => ⟨h4, _, rfl, hj.symm⟩)) (.inr ⟨b, pre, tail, rfl, hb, by rw [flatS, List.length_map, sortS_len]; rw [List.length_map] at h3; exact h3, h4, h5⟩) (fun b hb => .inl hb) (fun _ _ _ _ h => h.elim) (fun _ _ _ _ h => h.elim)
end
end Go.Proofs.YtcjaknnihjcajaaGreat.K
