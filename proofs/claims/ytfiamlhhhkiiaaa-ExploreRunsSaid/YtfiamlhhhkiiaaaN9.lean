/- The engine's views: parts of a row of the call's own, beside it. -/
import Derived.Test.YtfiamlhhhkiiaaaN8
set_option linter.unusedVariables false
set_option linter.unusedSimpArgs false
namespace Go.Proofs.Ytfiamlhhhkiiaaa.K
open Go Go.RowKit

/-- How often a function may be within itself. -/
theorem fuel_ex : ∃ n : Nat, 18446744073709551616 ≤ n := ⟨_, Nat.le_refl _⟩
noncomputable def fuelN : Nat := Classical.choose fuel_ex
theorem fuelN_ge : 18446744073709551616 ≤ fuelN := Classical.choose_spec fuel_ex
/-- Where the part from element L on begins. -/
def vA (A : Option Addr) (c L sz : Nat) : Option Addr := if c = L then A else A.map (·.add (L * sz))
theorem vA_at {A : Option Addr} {c L sz b o : Nat} (hA : A = some ⟨b, o, none⟩) (h : L < c) : vA A c L sz = some ⟨b, o + L * sz, none⟩ := by
  unfold vA; rw [if_neg (by omega), hA]; simp [add_lit]
theorem cut0 {A : Option Addr} {c sz n : Nat} : Value.slice (if c = 0 then A else A.map (·.add (0 * sz))) (n - 0) (c - 0) = .slice A n c := by
  have : (if c = 0 then A else A.map (·.add (0 * sz))) = A := by
    split
    · rfl
    · cases A <;> simp [Addr.add]
  rw [this]; rfl
theorem lenTake {α : Type} {xs : List α} {n : Nat} (h : n ≤ xs.length) : (xs.take n).length = n := by rw [List.length_take, Nat.min_eq_left h]
theorem lenPart {α : Type} {xs : List α} {L n : Nat} (h : L + n ≤ xs.length) : ((xs.drop L).take n).length = n := by rw [List.length_take, List.length_drop, Nat.min_eq_left (by omega)]

section
variable {P : Program} {l : List Value} {w : World} {o : Oper} {t e : TypeId} {x lo hi : Operand} {A : Option Addr} {n c sz : Nat} {i j : Int} {k k' : IntKind} {v : Value}
theorem x_cutSl_nsC (hx : evL l x = .slice A n c) (hl : evL l hi = .int k i) (hu : P.underlying t = some (.slice e)) (hs : pureSem P (sizeOf e) = some sz) (hg : 0 ≤ i ∧ i ≤ (c : Int)) (hr : Value.slice (if c = 0 then A else A.map (·.add (0 * sz))) (i.toNat - 0) (c - 0) = v) (ho : o.op = .slice t x none (some hi) none) :
    (execOp (evL l) o).run P w = .ok (.value v) w := by
  subst hr
  unfold execOp
  simp [ho, hx, hl, Instr.sliceAt, run_underlying hu, Instr.slice, sb_ns true n c hg.1 hg.2, pureSem_run hs]
theorem x_cutSl_ssC (hx : evL l x = .slice A n c) (hl : evL l lo = .int k i) (hh : evL l hi = .int k' j) (hu : P.underlying t = some (.slice e)) (hs : pureSem P (sizeOf e) = some sz) (hg : 0 ≤ i ∧ i ≤ j ∧ j ≤ (c : Int))
    (hr : Value.slice (if c = i.toNat then A else A.map (·.add (i.toNat * sz))) (j.toNat - i.toNat) (c - i.toNat) = v) (ho : o.op = .slice t x (some lo) (some hi) none) : (execOp (evL l) o).run P w = .ok (.value v) w := by
  subst hr
  unfold execOp
  simp [ho, hx, hl, hh, Instr.sliceAt, run_underlying hu, Instr.slice, sb_ss true n c hg.1 hg.2.1 hg.2.2, pureSem_run hs]
end

section
variable {α : Type} {rep : Zm → α → List Value → Prop} {enc : α → List Value} {e : TypeId} {sz : Nat} {w0 w w' : World} {Z Z' : Zm} {A : Option Addr} {c : Nat} {cs : List Value} {xs : List α} {os : List XObj} {b : Nat}
theorem RowIn.at2v [Inhabited α] {o L : Nat} {i : Int} (h : RowIn A c e sz (xs.flatMap enc) w) (hA : A = some ⟨b, o, none⟩) (hl : ∀ x, (enc x).length = sz) (hsz : 0 < sz) (h0 : 0 ≤ i) (h1 : (L : Int) + i < xs.length) : Cells w ⟨b, o + L * sz + i.toNat * sz, none⟩ (enc (gt xs ((L : Int) + i))) := by
  have := h.at2 hA hl hsz (i := (L : Int) + i) (by omega) h1
  rwa [show ((L : Int) + i).toNat = L + i.toNat by omega, Nat.add_mul, ← Nat.add_assoc] at this
theorem parts3 (enc : α → List Value) (xs : List α) (L n : Nat) : xs.flatMap enc = (xs.take L).flatMap enc ++ (((xs.drop L).take n).flatMap enc ++ (xs.drop (L + n)).flatMap enc) := by
  rw [← List.flatMap_append, ← List.flatMap_append, ← List.drop_drop, List.take_append_drop, List.take_append_drop]
theorem src_rowV {P : Program} {L n : Nat} (h : RowIn A c e sz (xs.flatMap enc) w) (hsz : 0 < sz) (hl : ∀ x, (enc x).length = sz) (hb : L + n ≤ xs.length) : Src P w sz (.slice (vA A c L sz) n (c - L)) n (((xs.drop L).take n).flatMap enc) := by
  rcases Nat.eq_zero_or_pos n with rfl | hn
  · simpa using (src_nil (P := P) (w := w) (sz := sz) (c := c - L) (A := vA A c L sz))
  · have hc := h.cap hl hsz
    have hpos : 0 < (xs.flatMap enc).length := by rw [flat_len hl]; exact Nat.mul_pos (by omega) hsz
    obtain ⟨b, o, hA, hcs⟩ := h.cells (List.getElem_mem hpos)
    rw [vA_at hA (by omega)]
    refine src_cells ?_ ?_
    · exact hcs.mid' (by rw [flat_len hl, List.length_take, Nat.min_eq_left (by omega)]) (parts3 enc xs L n)
    · rw [flat_len hl, lenPart hb]
theorem vA_zero : vA A c 0 sz = A := by
  unfold vA
  split
  · rfl
  · cases A <;> simp [Addr.add]
theorem src_row0 {P : Program} {n : Nat} (h : RowIn A c e sz (xs.flatMap enc) w) (hsz : 0 < sz) (hl : ∀ x, (enc x).length = sz) (hb : n ≤ xs.length) : Src P w sz (.slice A n c) n ((xs.take n).flatMap enc) := by
  have := src_rowV (P := P) (L := 0) (n := n) h hsz hl (by omega)
  simpa [vA_zero] using this
theorem src_rowV' {P : Program} {L n : Nat} (h : RowIn A c e sz (xs.flatMap enc) w) (hsz : 0 < sz) (hl : ∀ x, (enc x).length = sz) (hb : L + n ≤ xs.length) : Src P w sz (.slice (vA A c L sz) n (c - L)) ((xs.drop L).take n).length (((xs.drop L).take n).flatMap enc) := by
  rw [lenPart hb]; exact src_rowV h hsz hl hb
theorem src_row0' {P : Program} {n : Nat} (h : RowIn A c e sz (xs.flatMap enc) w) (hsz : 0 < sz) (hl : ∀ x, (enc x).length = sz) (hb : n ≤ xs.length) : Src P w sz (.slice A n c) (xs.take n).length ((xs.take n).flatMap enc) := by
  rw [lenTake hb]; exact src_row0 h hsz hl hb
theorem args_eq {P : Program} {g : FuncId} {args args' : Array Value} {w : World} {S : Ending → World → Prop} (he : args = args') (hc : Calls P g args' w S) : Calls P g args w S := he ▸ hc
theorem SlZ.take0 (h : SlZ rep sz Z A c xs) (n : Nat) : SlZ rep sz Z A c (xs.take n) :=
  ⟨by have := h.small; rw [List.length_take]; omega, by have := h.cap; rw [List.length_take]; omega, fun i x hx => h.cells i x (by
    rw [List.getElem?_take] at hx
    split at hx
    · exact hx
    · cases hx)⟩
theorem SlZ.part (h : SlZ rep sz Z A c xs) (L n : Nat) (hb : L + n ≤ xs.length) : SlZ rep sz Z (vA A c L sz) (c - L) ((xs.drop L).take n) := by
  have hc := h.cap
  refine ⟨by have := h.small; rw [lenPart hb]; omega, by rw [lenPart hb]; omega, fun i x hx => ?_⟩
  have hx' : xs[L + i]? = some x := by
    rw [List.getElem?_take] at hx
    split at hx
    · rwa [List.getElem?_drop] at hx
    · cases hx
  have hi := (List.getElem?_eq_some_iff.1 hx').1
  obtain ⟨b, o, cs, hA, h3, h4, h5⟩ := h.cells _ x hx'
  refine ⟨b, o + L * sz, cs, vA_at hA (by omega), h3, h4, h5.eq (by rw [Nat.add_mul]; omega)⟩
theorem St.cutrow0 (hS : St w0 Z (xrow A c e sz (xs.flatMap enc) :: os) w) (n : Nat) (hn : n ≤ xs.length) (hl : ∀ x, (enc x).length = sz) : St w0 Z (xrow A c e sz ((xs.take n).flatMap enc) :: os) w := by
  have hr : RowIn A c e sz (xs.flatMap enc) w := hS.hd
  refine hS.turn (X' := xrow A c e sz ((xs.take n).flatMap enc)) (FrP.refl _ _) ?_ (fun b hb => .inl hb) (fun _ _ _ _ h => h.elim) (fun _ _ _ _ h => h.elim)
  rcases hr with ⟨h3, h4⟩ | ⟨b, pre, tail, rfl, hB, h3, h4, h5⟩
  · refine .inl ⟨h3, ?_⟩
    have e1 := parts3 enc xs 0 n
    rw [h4] at e1
    simpa using (List.append_eq_nil_iff.1 (List.append_eq_nil_iff.1 e1.symm).2).1
  · refine .inr ⟨b, pre, (xs.drop n).flatMap enc ++ tail, rfl, hB.eq ?_, ?_, h4, h5⟩
    · have e1 := parts3 enc xs 0 n
      simp only [List.take_zero, List.flatMap_nil, List.nil_append, List.drop_zero, Nat.zero_add] at e1
      rw [e1]; simp [List.append_assoc]
    · rw [List.length_append, flat_len hl, flat_len hl, lenTake hn, List.length_drop, ← h3, flat_len hl]
      have : xs.length * sz = n * sz + (xs.length - n) * sz := by rw [← Nat.add_mul]; congr 1; omega
      omega
end

/-! ### copy and clear, into a part -/
theorem zeroCells_get (z : List Value) (hz : 0 < z.length) : ∀ (n i : Nat), i < n * z.length → ((List.replicate n z).flatten)[i]? = z[i % z.length]?
  | 0, i, h => by omega
  | n + 1, i, h => by
    rw [List.replicate_succ, List.flatten_cons]
    by_cases hi : i < z.length
    · rw [List.getElem?_append_left hi, Nat.mod_eq_of_lt hi]
    · rw [List.getElem?_append_right (by omega), zeroCells_get z hz n (i - z.length) (by rw [Nat.add_mul] at h; omega), ← Nat.mod_eq_sub_mod (by omega)]
theorem zeroCells_list (z : List Value) (n : Nat) (hz : 0 < z.length) : (Builtin.zeroCells z.toArray n).toList = (List.replicate n z).flatten := by
  apply List.ext_getElem?
  intro i
  by_cases hi : i < n * z.length
  · rw [zeroCells_get z hz n i hi]
    have hm : i % z.length < z.length := Nat.mod_lt _ hz
    simp [Builtin.zeroCells, List.getElem?_eq_getElem, hi, hm]
  · rw [List.getElem?_eq_none (by simp [Builtin.zeroCells]; omega), List.getElem?_eq_none (by simp; omega)]
def copyv {α : Type} (xs : List α) (L n : Nat) (ys : List α) : List α := xs.take L ++ (ys.take n ++ xs.drop (L + min ys.length n))
theorem copyv_len {α : Type} {xs : List α} {L n : Nat} {ys : List α} (h : L + n ≤ xs.length) : (copyv xs L n ys).length = xs.length := by
  simp only [copyv, List.length_append, List.length_take, List.length_drop]; omega
section
variable {α : Type} {enc : α → List Value} {P : Program} {e t t2 ty : TypeId} {sz cp L n : Nat} {A : Option Addr} {xs ys : List α} {w w0 : World} {xv : Value} {ycs : List Value} {Z : Zm} {os : List XObj}
theorem put_part (hr : RowIn A cp e sz (xs.flatMap enc) w) (hb : L + n ≤ xs.length) (hsz : 0 < sz) (hl : ∀ x, (enc x).length = sz) (h1 : ∀ x, (enc x).all Value.oneCell' = true) :
    ∃ w', (match vA A cp L sz with | some a => storeCells a ((ys.take n).flatMap enc) | none => pure ()).run P w = .ok () w' ∧ RowIn A cp e sz ((copyv xs L n ys).flatMap enc) w' ∧ FrP (xrow A cp e sz (xs.flatMap enc)).own w w' := by
  have hlen1 : ((ys.take n).flatMap enc).length = (min ys.length n) * sz := by rw [flat_len hl, List.length_take, Nat.min_comm]
  have hcap := hr.cap hl hsz
  have hnew0 : copyv xs L n ys = xs → ∃ w', (pure () : Sem Unit).run P w = .ok () w' ∧ RowIn A cp e sz ((copyv xs L n ys).flatMap enc) w' ∧ FrP (xrow A cp e sz (xs.flatMap enc)).own w w' := fun he => ⟨w, rfl, by rw [he]; exact hr, FrP.refl _ _⟩
  rcases Nat.eq_zero_or_pos (min ys.length n) with h0 | hpos
  · have he : copyv xs L n ys = xs := by
      have : ys.take n = [] := List.eq_nil_of_length_eq_zero (by rw [List.length_take]; omega)
      rw [copyv, this, h0, Nat.add_zero, List.nil_append, List.take_append_drop]
    have hnil : (ys.take n).flatMap enc = [] := List.eq_nil_of_length_eq_zero (by rw [hlen1, h0]; omega)
    rw [hnil]
    obtain ⟨w', h2, h3⟩ := hnew0 he
    refine ⟨w', ?_, h3⟩
    cases vA A cp L sz <;> simpa [storeCells] using h2
  · rcases hr with ⟨h3, h4⟩ | ⟨b, pre, tail, rfl, hB, h3, h4, h5⟩
    · omega
    · rw [vA_at rfl (by omega)]
      have e3 := parts3 enc xs L (min ys.length n)
      have hpre : ((xs.take L).flatMap enc).length = L * sz := by rw [flat_len hl, lenTake (by omega)]
      obtain ⟨w', hst, hb', hf⟩ := run_storeCells (P := P) (o := pre.length + L * sz) ((ys.take n).flatMap enc) 0 hB (by
        rw [hlen1]; simp only [List.length_append]; rw [flat_len hl]
        have : L * sz + min ys.length n * sz ≤ xs.length * sz := by rw [← Nat.add_mul]; exact Nat.mul_le_mul_right _ (by omega)
        omega) (List.all_eq_true.1 (flat_one h1 (ys.take n)))
      refine ⟨w', hst, .inr ⟨b, pre, tail, rfl, hb'.eq ?_, ?_, h4, h5⟩, hf.mono (fun k _ hk => ⟨h4, _, rfl, hk.symm⟩)⟩
      · rw [Nat.add_zero, over_mid' (pre := pre ++ (xs.take L).flatMap enc) (old := ((xs.drop L).take (min ys.length n)).flatMap enc) (post := (xs.drop (L + min ys.length n)).flatMap enc ++ tail) (by rw [e3]; simp [List.append_assoc]) (by rw [List.length_append, hpre])
          (by rw [hlen1, flat_len hl, lenPart (by omega)])]
        simp [copyv, List.flatMap_append, List.append_assoc]
      · rw [flat_len hl, copyv_len hb, ← h3, flat_len hl]
theorem copyV_run (hr : RowIn A cp e sz (xs.flatMap enc) w) (hb : L + n ≤ xs.length) (ht : P.underlying t = some (.slice e)) (hsize : pureSem P (sizeOf e) = some sz) (hsz : 0 < sz) (hl : ∀ x, (enc x).length = sz) (h1 : ∀ x, (enc x).all Value.oneCell' = true) (hc : Src P w sz xv ys.length (ys.flatMap enc)) :
    ∃ w', (Builtin.copy_ #[t, t2] ty #[.slice (vA A cp L sz) n (cp - L), xv]).run P w = .ok (.int .i64 (min ys.length n : Nat)) w' ∧ RowIn A cp e sz ((copyv xs L n ys).flatMap enc) w' ∧ FrP (xrow A cp e sz (xs.flatMap enc)).own w w' := by
  have hnl : (ys.flatMap enc).take ((min ys.length n) * sz) = (ys.take n).flatMap enc := by
    have e1 : ys.take n = ys.take (min ys.length n) := by
      rcases Nat.le_total ys.length n with h | h
      · rw [Nat.min_eq_left h, List.take_of_length_le h, List.take_of_length_le (Nat.le_refl _)]
      · rw [Nat.min_eq_right h]
    rw [e1]
    have e2 : ys.flatMap enc = (ys.take (min ys.length n)).flatMap enc ++ (ys.drop (min ys.length n)).flatMap enc := by rw [← List.flatMap_append, List.take_append_drop]
    rw [e2, List.take_left' (by rw [flat_len hl, List.length_take]; congr 1; omega)]
  have hpart := hc.part (min ys.length n) w (by omega) rfl
  rw [hnl] at hpart
  have hlen := hc.len w
  obtain ⟨w', hst, hr', hf⟩ := put_part (P := P) (ys := ys) hr hb hsz hl h1
  refine ⟨w', ?_, hr', hf⟩
  cases hA : vA A cp L sz with
  | none =>
    rw [hA] at hst
    simp only [Sem.run_pure, Result.ok.injEq, true_and] at hst
    subst hst
    simp [Builtin.copy_, run_underlying ht, hlen, pureSem_run hsize, hpart, goInt, show ∀ a b : Nat, Nat.min a b = min a b from fun _ _ => rfl]
  | some a =>
    rw [hA] at hst
    simp only at hst
    simp [Builtin.copy_, run_underlying ht, hlen, pureSem_run hsize, hpart, hst, goInt, show ∀ a b : Nat, Nat.min a b = min a b from fun _ _ => rfl]
theorem clearV_run {z : Value} {z0 : α} (hr : RowIn A cp e sz (xs.flatMap enc) w) (hb : L + n ≤ xs.length) (ht : P.underlying t = some (.slice e)) (hz : pureSem P (zeroValue e) = some z) (hz0 : z.cells = (enc z0).toArray) (hsz : 0 < sz) (hl : ∀ x, (enc x).length = sz) (h1 : ∀ x, (enc x).all Value.oneCell' = true) :
    ∃ w', (Builtin.clear_ #[t] ty #[.slice (vA A cp L sz) n (cp - L)]).run P w = .ok (.tuple #[]) w' ∧ RowIn A cp e sz ((copyv xs L n (List.replicate n z0)).flatMap enc) w' ∧ FrP (xrow A cp e sz (xs.flatMap enc)).own w w' := by
  obtain ⟨w', hst, hr', hf⟩ := put_part (P := P) (ys := List.replicate n z0) hr hb hsz hl h1
  refine ⟨w', ?_, hr', hf⟩
  rw [List.take_of_length_le (by simp)] at hst
  cases hA : vA A cp L sz with
  | none =>
    rw [hA] at hst
    simp only [Sem.run_pure, Result.ok.injEq, true_and] at hst
    subst hst
    simp [Builtin.clear_, run_underlying ht]
  | some a =>
    rw [hA] at hst
    simp only at hst
    cases n with
    | zero =>
      simp only [List.replicate_zero, List.flatMap_nil] at hst
      have : w' = w := by simpa [storeCells] using hst.symm
      subst this
      simp [Builtin.clear_, run_underlying ht]
    | succ m =>
      have hzc : (Builtin.zeroCells z.cells (m + 1)).toList = (List.replicate (m + 1) z0).flatMap enc := by
        rw [hz0]
        rw [zeroCells_list (enc z0) (m + 1) (by rw [hl]; exact hsz), List.flatMap_def, List.map_replicate]
      simp [Builtin.clear_, run_underlying ht, pureSem_run hz, hzc, hst]
end
section
variable {P : Program} {f : Fx} {k : List Item} {l : List Value} {w w0 : World} {Z : Zm} {os : List XObj} {R : Ending → World → Prop} {c : Code} {i : Nat} {rest : List Nat} {d : Option Tmp} {ty : TypeId}
theorem r_copyV {α : Type} {enc : α → List Value} {e t t2 : TypeId} {sz cp L n : Nat} {A : Option Addr} {xs ys : List α} {s x : Operand} {xv : Value}
    (hS : St w0 Z (xrow A cp e sz (xs.flatMap enc) :: os) w) (ho : opI c i = some (d, .call { callee := .builtin .copy, args := #[s, x], argTypes := #[t, t2] }, ty)) (hw : wantI c l i = true) (hs : evL l s = .slice (vA A cp L sz) n (cp - L)) (hx : evL l x = xv)
    (ht : P.underlying t = some (.slice e)) (hsize : pureSem P (sizeOf e) = some sz) (hsz : 0 < sz) (hl : ∀ x, (enc x).length = sz) (h1 : ∀ x, (enc x).all Value.oneCell' = true) (hb : L + n ≤ xs.length) (hc : Src P w sz xv ys.length (ys.flatMap enc))
    (h : ∀ w', St w0 Z (xrow A cp e sz ((copyv xs L n ys).flatMap enc) :: os) w' → Runs P f (.inRegion (opsOf c) rest :: k) (putL l d (.int .i64 (min ys.length n : Nat))) w' R) : Runs P f (.inRegion (opsOf c) (i :: rest) :: k) l w R := by
  obtain ⟨w', hrun, hr', hf⟩ := copyV_run (t2 := t2) (ty := ty) hS.hd hb ht hsize hsz hl h1 hc
  refine r_val ho hw (fun o ho2 hty => ?_) (h w' (hS.turn (X' := xrow A cp e sz ((copyv xs L n ys).flatMap enc)) hf hr' (fun b hb => .inl hb) (fun _ _ _ _ h => h.elim) (fun _ _ _ _ h => h.elim)))
  subst hty
  unfold execOp
  simp only [ho2, resolve, invoke, builtin, Sem.run_bind, Sem.run_pure, Result.andThen_ok, List.map_toArray, List.map_cons, List.map_nil, hs, hx, hrun]
theorem does_copyV {α : Type} {enc : α → List Value} {e t t2 : TypeId} {sz cp L n : Nat} {A : Option Addr} {xs ys : List α} {s x : Operand} {xv : Value} {or : Oper} {X : Type} {ux : X} {Q : X → Value → Prop} {C1 : X → World → Prop}
    (hS : St w0 Z (xrow A cp e sz (xs.flatMap enc) :: os) w) (ho : or.op = .call { callee := .builtin .copy, args := #[s, x], argTypes := #[t, t2] }) (hs : evL l s = .slice (vA A cp L sz) n (cp - L)) (hx : evL l x = xv)
    (ht : P.underlying t = some (.slice e)) (hsize : pureSem P (sizeOf e) = some sz) (hsz : 0 < sz) (hl : ∀ x, (enc x).length = sz) (h1 : ∀ x, (enc x).all Value.oneCell' = true) (hb : L + n ≤ xs.length) (hc : Src P w sz xv ys.length (ys.flatMap enc))
    (hq : Q ux (.int .i64 (min ys.length n : Nat))) (hk : ∀ w', St w0 Z (xrow A cp e sz ((copyv xs L n ys).flatMap enc) :: os) w' → C1 ux w') : Does P (execOp (evL l) or) (or.dst = none) w fun v w' => ∃ x, (or.dst = none ∨ Q x v) ∧ C1 x w' := by
  obtain ⟨w', hrun, hr', hf⟩ := copyV_run (t2 := t2) (ty := or.type) hS.hd hb ht hsize hsz hl h1 hc
  refine .inl ⟨_, w', ?_, ux, .inr hq, hk w' (hS.turn (X' := xrow A cp e sz ((copyv xs L n ys).flatMap enc)) hf hr' (fun b hb => .inl hb) (fun _ _ _ _ h => h.elim) (fun _ _ _ _ h => h.elim))⟩
  unfold execOp
  simp only [ho, resolve, invoke, builtin, Sem.run_bind, Sem.run_pure, Result.andThen_ok, List.map_toArray, List.map_cons, List.map_nil, hs, hx, hrun]
theorem r_clearV {α : Type} {enc : α → List Value} {e t : TypeId} {sz cp L n : Nat} {A : Option Addr} {xs : List α} {s : Operand} {z : Value} {z0 : α}
    (hS : St w0 Z (xrow A cp e sz (xs.flatMap enc) :: os) w) (ho : opI c i = some (d, .call { callee := .builtin .clear, args := #[s], argTypes := #[t] }, ty)) (hw : wantI c l i = true) (hs : evL l s = .slice (vA A cp L sz) n (cp - L))
    (ht : P.underlying t = some (.slice e)) (hz : pureSem P (zeroValue e) = some z) (hz0 : z.cells = (enc z0).toArray) (hsz : 0 < sz) (hl : ∀ x, (enc x).length = sz) (h1 : ∀ x, (enc x).all Value.oneCell' = true) (hb : L + n ≤ xs.length)
    (h : ∀ w', St w0 Z (xrow A cp e sz ((copyv xs L n (List.replicate n z0)).flatMap enc) :: os) w' → Runs P f (.inRegion (opsOf c) rest :: k) (putL l d (.tuple #[])) w' R) : Runs P f (.inRegion (opsOf c) (i :: rest) :: k) l w R := by
  obtain ⟨w', hrun, hr', hf⟩ := clearV_run (ty := ty) hS.hd hb ht hz hz0 hsz hl h1
  refine r_val ho hw (fun o ho2 hty => ?_) (h w' (hS.turn (X' := xrow A cp e sz ((copyv xs L n (List.replicate n z0)).flatMap enc)) hf hr' (fun b hb => .inl hb) (fun _ _ _ _ h => h.elim) (fun _ _ _ _ h => h.elim)))
  subst hty
  unfold execOp
  simp only [ho2, resolve, invoke, builtin, Sem.run_bind, Sem.run_pure, Result.andThen_ok, List.map_toArray, List.map_cons, List.map_nil, hs, hrun]
end
section
variable {P : Program} {f : Fx} {k : List Item} {l : List Value} {w : World} {R : Ending → World → Prop} {C : World → Prop} {F : Nat → List Value → Prop} {c : Code} {i : Nat} {rest : List Nat} {d : Option Tmp} {ty : TypeId}
theorem r_indexArrL {t e : TypeId} {x y : Operand} {b o' n sz m : Nat} {kk : IntKind} {j : Int} (ho : opI c i = some (d, .indexAddr t x y, ty)) (hw : wantI c l i = true) (hx : evL l x = .pointer (some ⟨b, o', none⟩)) (hy : evL l y = .int kk j)
    (hu : P.underlying t = some (.array n e)) (hs : pureSem P (sizeOf e) = some sz) (he : j = ((m : Nat) : Int)) (hm : m < n)
    (h : Runs P f (.inRegion (opsOf c) rest :: k) (putL l d (.pointer (some ⟨b, o' + m * sz, none⟩))) w R) : Runs P f (.inRegion (opsOf c) (i :: rest) :: k) l w R := by
  subst he
  exact r_indexArr ho hw hx hy hu hs (by omega) (by omega) (by rw [Int.toNat_natCast]; exact h)
end
/-! ### A cut with three numbers -/
theorem sb_nss {P : Program} {w : World} (b : Bool) (n c : Nat) {k k' : IntKind} {i j : Int} (h0 : 0 ≤ i) (h1 : i ≤ j) (h2 : j ≤ (c : Int)) : (Instr.sliceBounds b n c none (some (.int k i)) (some (.int k' j))).run P w = .ok (0, i.toNat, j.toNat) w := by
  simp [Instr.sliceBounds, run_sliceBound (show 0 ≤ j by omega) h2, run_sliceBound (y := j.toNat) h0 (by omega)]
theorem x_cutSl_nss {P : Program} {l : List Value} {w : World} {o : Oper} {t e : TypeId} {x hi mx : Operand} {A : Option Addr} {n c sz : Nat} {i j : Int} {k k' : IntKind} {v : Value} (hx : evL l x = .slice A n c) (hl : evL l hi = .int k i) (hm : evL l mx = .int k' j) (hu : P.underlying t = some (.slice e)) (hs : pureSem P (sizeOf e) = some sz) (hg : 0 ≤ i ∧ i ≤ j ∧ j ≤ (n : Int)) (hc : n ≤ c)
    (hr : Value.slice (if j.toNat = 0 then A else A.map (·.add (0 * sz))) (i.toNat - 0) (j.toNat - 0) = v) (ho : o.op = .slice t x none (some hi) (some mx)) : (execOp (evL l) o).run P w = .ok (.value v) w := by
  subst hr
  unfold execOp
  simp [ho, hx, hl, hm, Instr.sliceAt, run_underlying hu, Instr.slice, sb_nss true n c hg.1 hg.2.1 (show j ≤ (c : Int) by omega), pureSem_run hs]
theorem cutSlM {α : Type} {rep : Zm → α → List Value → Prop} {sz : Nat} {Z : Zm} {A : Option Addr} {c : Nat} {xs : List α} (h : SlZ rep sz Z A c xs) (H M : Nat) (h1 : H ≤ M) (h2 : M ≤ xs.length) :
    ∃ A' c', Value.slice (if M = 0 then A else A.map (·.add (0 * sz))) (H - 0) (M - 0) = .slice A' (xs.take H).length c' ∧ SlZ rep sz Z A' c' (xs.take H) := by
  refine ⟨A, M, ?_, ?_, ?_, fun i x hx => ?_⟩
  · have : (if M = 0 then A else A.map (·.add (0 * sz))) = A := by
      split
      · rfl
      · cases A with
        | none => rfl
        | some a => simp [Addr.add]
    rw [this]; congr 1; rw [List.length_take]; omega
  · have := h.small; rw [List.length_take]; omega
  · rw [List.length_take]; omega
  · rw [List.getElem?_take] at hx
    split at hx
    · exact h.cells i x hx
    · cases hx
def repL {α : Type} (rep : Zm → α → List Value → Prop) (sz : Nat) (Z : Zm) (xs : List α) (cs : List Value) : Prop := ∃ A c, cs = [.slice A xs.length c] ∧ SlZ rep sz Z A c xs
theorem mono_repL {α : Type} {rep : Zm → α → List Value → Prop} {sz : Nat} (h : Mono rep) : Mono (repL rep sz) := by
  rintro Z Z' xs cs hz ⟨A, c, hc, hs⟩
  exact ⟨A, c, hc, hs.mono h hz⟩
end Go.Proofs.Ytfiamlhhhkiiaaa.K
