/- The engine's views: parts of a row of the call's own, beside it. -/
import Derived.Test.YtcjaknnihjcajaaGreatN8
set_option linter.unusedVariables false
set_option linter.unusedSimpArgs false
namespace Go.Proofs.YtcjaknnihjcajaaGreat.K
open Go Go.RowKit
theorem fuel_ex : ∃ n : Nat, 18446744073709551616 ≤ n := ⟨_, Nat.le_refl _⟩
noncomputable def fuelN : Nat := Classical.choose fuel_ex
theorem fuelN_ge : 18446744073709551616 ≤ fuelN := Classical.choose_spec fuel_ex
def vA (A : Option Addr) (c L sz : Nat) : Option Addr := if c = L then A else A.map (·.add (L * sz))
theorem vA_at {A : Option Addr} {c L sz b o : Nat} (hA : A = some ⟨b, o, none⟩) (h : L < c) : vA A c L sz = some ⟨b, o + L * sz, none⟩ := by
 unfold vA; rw [if_neg (by omega), hA]; simp [add_lit]
theorem cut0 {A : Option Addr} {c sz n : Nat} : Value.slice (if c = 0 then A else A.map (·.add (0 * sz))) (n - 0) (c - 0) = .slice A n c := by
 have : (if c = 0 then A else A.map (·.add (0 * sz))) = A := by
  split
  ·rfl
  ·cases A <;> simp [Addr.add]
 rw [this]; rfl
theorem lenTake {α : Type} {xs : List α} {n : Nat} (h : n ≤ xs.length) : (xs.take n).length = n := by rw [List.length_take, Nat.min_eq_left h]
theorem lenPart {α : Type} {xs : List α} {L n : Nat} (h : L + n ≤ xs.length) : ((xs.drop L).take n).length = n := by rw [List.length_take, List.length_drop, Nat.min_eq_left (by omega)]
section
variable {P : Program} {l : List Value} {w : World} {o : Oper} {t e : TypeId} {x lo hi : Operand} {A : Option Addr} {n c sz : Nat} {i j : Int} {k k' : IntKind} {v : Value}
theorem x_cutSl_nsC (hx : evL l x = .slice A n c) (hl : evL l hi = .int k i) (hu : P.underlying t = some (.slice e)) (hs : pureSem P (sizeOf e) = some sz) (hg : 0 ≤ i ∧ i ≤ (c : Int)) (hr : Value.slice (if c = 0 then A else A.map (·.add (0 * sz))) (i.toNat - 0) (c - 0) = v) (ho : o.op = .slice t x none (some hi) none) :
  (execOp (evL l) o).run P w = .ok (.value v) w := by
 subst hr
 unfold execOp
 simp [ho, hx, hl, Instr.sliceAt, run_underlying hu, Instr.slice, sb_ns true n c hg.1 hg.2, pureSem_run hs]
end
section
variable {α : Type} {rep : Zm → α → List Value → Prop} {enc : α → List Value} {e : TypeId} {sz : Nat} {w0 w w' : World} {Z Z' : Zm} {A : Option Addr} {c : Nat} {cs : List Value} {xs : List α} {os : List XObj} {b : Nat}
theorem parts3 (enc : α → List Value) (xs : List α) (L n : Nat) : xs.flatMap enc = (xs.take L).flatMap enc ++ (((xs.drop L).take n).flatMap enc ++ (xs.drop (L + n)).flatMap enc) := by
 rw [← List.flatMap_append, ← List.flatMap_append, ← List.drop_drop, List.take_append_drop, List.take_append_drop]
theorem src_rowV {P : Program} {L n : Nat} (h : RowIn A c e sz (xs.flatMap enc) w) (hsz : 0 < sz) (hl : ∀ x, (enc x).length = sz) (hb : L + n ≤ xs.length) : Src P w sz (.slice (vA A c L sz) n (c - L)) n (((xs.drop L).take n).flatMap enc) := by
 rcases Nat.eq_zero_or_pos n with rfl | hn
 ·simpa using (src_nil (P := P) (w := w) (sz := sz) (c := c - L) (A := vA A c L sz))
 ·have hc := h.cap hl hsz
  have hpos : 0 < (xs.flatMap enc).length := by rw [flat_len hl]; exact Nat.mul_pos (by omega) hsz
  obtain ⟨b, o, hA, hcs⟩ := h.cells (List.getElem_mem hpos)
  rw [vA_at hA (by omega)]
  refine src_cells ?_ ?_
  ·exact hcs.mid' (by rw [flat_len hl, List.length_take, Nat.min_eq_left (by omega)]) (parts3 enc xs L n)
  ·rw [flat_len hl, lenPart hb]
theorem vA_zero : vA A c 0 sz = A := by
 unfold vA
 split
 ·rfl
 ·cases A <;> simp [Addr.add]
theorem src_row0 {P : Program} {n : Nat} (h : RowIn A c e sz (xs.flatMap enc) w) (hsz : 0 < sz) (hl : ∀ x, (enc x).length = sz) (hb : n ≤ xs.length) : Src P w sz (.slice A n c) n ((xs.take n).flatMap enc) := by
 have := src_rowV (P := P) (L := 0) (n := n) h hsz hl (by omega)
 simpa [vA_zero] using this
theorem src_rowV' {P : Program} {L n : Nat} (h : RowIn A c e sz (xs.flatMap enc) w) (hsz : 0 < sz) (hl : ∀ x, (enc x).length = sz) (hb : L + n ≤ xs.length) : Src P w sz (.slice (vA A c L sz) n (c - L)) ((xs.drop L).take n).length (((xs.drop L).take n).flatMap enc) := by
 rw [lenPart hb]; exact src_rowV h hsz hl hb
theorem src_row0' {P : Program} {n : Nat} (h : RowIn A c e sz (xs.flatMap enc) w) (hsz : 0 < sz) (hl : ∀ x, (enc x).length = sz) (hb : n ≤ xs.length) : Src P w sz (.slice A n c) (xs.take n).length ((xs.take n).flatMap enc) := by
 rw [lenTake hb]; exact src_row0 h hsz hl hb
theorem SlZ.part (h : SlZ rep sz Z A c xs) (L n : Nat) (hb : L + n ≤ xs.length) : SlZ rep sz Z (vA A c L sz) (c - L) ((xs.drop L).take n) := by
 have hc := h.cap
 refine ⟨by have := h.small; rw [lenPart hb]; omega, by rw [lenPart hb]; omega, fun i x hx => ?_⟩
 have hx' : xs[L + i]? = some x := by
  rw [List.getElem?_take] at hx
  split at hx
  ·rwa [List.getElem?_drop] at hx
  ·cases hx
 have hi := (List.getElem?_eq_some_iff.1 hx').1
 obtain ⟨b, o, cs, hA, h3, h4, h5⟩ := h.cells _ x hx'
 refine ⟨b, o + L * sz, cs, vA_at hA (by omega), h3, h4, h5.eq (by rw [Nat.add_mul]; omega)⟩
end
/-! ### copy and clear, into a part -/
theorem St.clip {α : Type} {enc : α → List Value} {e : TypeId} {sz : Nat} {w0 w : World} {Z : Zm} {A : Option Addr} {c : Nat} {xs : List α} {os : List XObj} (hS : St w0 Z (xrow A c e sz (xs.flatMap enc) :: os) w) (hl : ∀ x, (enc x).length = sz) (hsz : 0 < sz) : St w0 Z (xrow A xs.length e sz (xs.flatMap enc) :: os) w := by
 have hr : RowIn A c e sz (xs.flatMap enc) w := hS.hd
 have hc := hr.cap hl hsz
 refine hS.turn (X' := xrow A xs.length e sz (xs.flatMap enc)) (FrP.refl _ _) ?_ (fun b hb => .inl ⟨Nat.lt_of_lt_of_le hb.1 hc, hb.2⟩) (fun _ _ _ _ h => h.elim) (fun _ _ _ _ h => h.elim)
 by_cases hn : xs.length = 0
 ·exact .inl ⟨hn, by rw [List.eq_nil_of_length_eq_zero hn]; rfl⟩
 ·rcases hr with ⟨h3, h4⟩ | ⟨b, pre, tail, rfl, hB, h3, h4, h5⟩
  ·omega
  ·exact .inr ⟨b, pre, tail, rfl, hB, ⟨by rw [flat_len hl]; omega, by rw [flat_len hl]; omega⟩, by omega, by omega⟩
section
variable {α : Type} {enc : α → List Value} {P : Program} {e t t2 ty : TypeId} {sz cp L n : Nat} {A : Option Addr} {xs ys : List α} {w w0 : World} {xv : Value} {ycs : List Value} {Z : Zm} {os : List XObj}
end
section
variable {P : Program} {f : Fx} {k : List Item} {l : List Value} {w w0 : World} {Z : Zm} {os : List XObj} {R : Ending → World → Prop} {c : Code} {i : Nat} {rest : List Nat} {d : Option Tmp} {ty : TypeId}
end
section
variable {P : Program} {f : Fx} {k : List Item} {l : List Value} {w : World} {R : Ending → World → Prop} {C : World → Prop} {F : Nat → List Value → Prop} {c : Code} {i : Nat} {rest : List Nat} {d : Option Tmp} {ty : TypeId}
end
/-! ### A cut with three numbers -/
theorem sb_nss {P : Program} {w : World} (b : Bool) (n c : Nat) {k k' : IntKind} {i j : Int} (h0 : 0 ≤ i) (h1 : i ≤ j) (h2 : j ≤ (c : Int)) : (Instr.sliceBounds b n c none (some (.int k i)) (some (.int k' j))).run P w = .ok (0, i.toNat, j.toNat) w := by
 simp [Instr.sliceBounds, run_sliceBound (show 0 ≤ j by omega) h2, run_sliceBound (y := j.toNat) h0 (by omega)]
theorem x_cutSl_nss {P : Program} {l : List Value} {w : World} {o : Oper} {t e : TypeId} {x hi mx : Operand} {A : Option Addr} {n c sz : Nat} {i j : Int} {k k' : IntKind} {v : Value} (hx : evL l x = .slice A n c) (hl : evL l hi = .int k i) (hm : evL l mx = .int k' j) (hu : P.underlying t = some (.slice e)) (hs : pureSem P (sizeOf e) = some sz) (hg : 0 ≤ i ∧ i ≤ j ∧ j ≤ (n : Int)) (hc : n ≤ c)
  (hr : Value.slice (if j.toNat = 0 then A else A.map (·.add (0 * sz))) (i.toNat - 0) (j.toNat - 0) = v) (ho : o.op = .slice t x none (some hi) (some mx)) : (execOp (evL l) o).run P w = .ok (.value v) w := by
 subst hr
 unfold execOp
 simp [ho, hx, hl, hm, Instr.sliceAt, run_underlying hu, Instr.slice, sb_nss true n c hg.1 hg.2.1 (show j ≤ (c : Int) by omega), pureSem_run hs]
theorem clip_eq {α : Type} (A : Option Addr) (sz : Nat) (t : List α) : Value.slice (if ((t.length : Int)).toNat = 0 then A else A.map (·.add (0 * sz))) (((t.length : Int)).toNat - 0) (((t.length : Int)).toNat - 0) = .slice A t.length t.length := by
 have h : A.map (·.add (0 * sz)) = A := by
  cases A with
  | none => rfl
  | some a => simp [Addr.add]
 rw [h, ite_self, Int.toNat_natCast, Nat.sub_zero]
theorem cutSlM {α : Type} {rep : Zm → α → List Value → Prop} {sz : Nat} {Z : Zm} {A : Option Addr} {c : Nat} {xs : List α} (h : SlZ rep sz Z A c xs) (H M : Nat) (h1 : H ≤ M) (h2 : M ≤ xs.length) :
  ∃ A' c', Value.slice (if M = 0 then A else A.map (·.add (0 * sz))) (H - 0) (M - 0) = .slice A' (xs.take H).length c' ∧ SlZ rep sz Z A' c' (xs.take H) := by
 refine ⟨A, M, ?_, ?_, ?_, fun i x hx => ?_⟩
 ·have : (if M = 0 then A else A.map (·.add (0 * sz))) = A := by
   split
   ·rfl
   ·cases A with
    | none => rfl
    | some a => simp [Addr.add]
  rw [this]; congr 1; rw [List.length_take]; omega
 ·have := h.small; rw [List.length_take]; omega
 ·rw [List.length_take]; omega
 ·rw [List.getElem?_take] at hx
  split at hx
  ·exact h.cells i x hx
  ·cases hx
def repL {α : Type} (rep : Zm → α → List Value → Prop) (sz : Nat) (Z : Zm) (xs : List α) (cs : List Value) : Prop := ∃ A c, cs = [.slice A xs.length c] ∧ SlZ rep sz Z A c xs
theorem mono_repL {α : Type} {rep : Zm → α → List Value → Prop} {sz : Nat} (h : Mono rep) : Mono (repL rep sz) := by
 rintro Z Z' xs cs hz ⟨A, c, hc, hs⟩
 exact ⟨A, c, hc, hs.mono h hz⟩
end Go.Proofs.YtcjaknnihjcajaaGreat.K
