/- The engine's '==' of structs. -/
import Derived.Test.YtfiamlhhhkiiaaaN5
import Derived.Laws.StructEq
set_option linter.unusedVariables false
set_option linter.unusedSimpArgs false
namespace Go.Proofs.Ytfiamlhhhkiiaaa.K
open Go Go.RowKit

def fld (P : Program) (t : TypeId) (i : Nat) : Field := match (P.fieldsOf t)[i]? with | some f => f | none => default
section
variable {P : Program} {d : Nat} {xs ys : Array Value} {f : Field} {fs : List Field} {a b : Value} {r s : Bool} {w : World}
theorem eqF_nil : (Op.eqFields d xs ys []).run P w = .ok true w := by simp [Op.eqFields]
theorem eqF_cons (hn : (f.name != "_") = true) (ha : pureSem P (part f.type xs f.offset) = some a) (hb : pureSem P (part f.type ys f.offset) = some b) (he : (Op.equalIn d f.type a b).run P w = .ok r w) (hr : (Op.eqFields d xs ys fs).run P w = .ok s w) :
    (Op.eqFields d xs ys (f :: fs)).run P w = .ok (r && s) w := by
  have hn' : f.name ≠ "_" := by simpa using hn
  rw [Op.eqFields]
  simp only [if_pos hn', Sem.run_bind, pureSem_run ha, pureSem_run hb, he, Result.andThen_ok]
  cases r
  · simp [Sem.run_pure]
  · simpa using hr
/-- The same, the parts' values known by an equation. -/
theorem eqF_cons' (hn : (f.name != "_") = true) (ha : (part f.type xs f.offset).run P w = .ok a w) (hb : (part f.type ys f.offset).run P w = .ok b w) (he : (Op.equalIn d f.type a b).run P w = .ok r w) (hr : (Op.eqFields d xs ys fs).run P w = .ok s w) :
    (Op.eqFields d xs ys (f :: fs)).run P w = .ok (r && s) w := by
  have hn' : f.name ≠ "_" := by simpa using hn
  rw [Op.eqFields]
  simp only [if_pos hn', Sem.run_bind, ha, hb, he, Result.andThen_ok]
  cases r
  · simp [Sem.run_pure]
  · simpa using hr
theorem eqS {t : TypeId} {fs : List Field} (hu : P.underlying t = some (.struct (P.fieldsOf t))) (hp : P.stoodInHeld t = false) (hf : (P.fieldsOf t).toList = fs) (h : (Op.eqFields d xs ys fs).run P w = .ok r w) : (Op.equalIn (d + 1) t (.agg xs) (.agg ys)).run P w = .ok r w := by
  rw [run_equalIn_struct (P := P) w d t xs ys hu hp, hf]
  exact h
theorem eqI {t : TypeId} {k k' : IntKind} {x y : Int} (h : P.underlying t = some (.int k')) : (Op.equalIn (d + 1) t (.int k x) (.int k y)).run P w = .ok (x == y) w := run_equalIn_int w d t k k' x y h
theorem ba_beq (x y : ByteArray) : ((x == y) = true) ↔ x = y := by
  cases x with | mk a =>
  cases y with | mk b =>
  have h : ((ByteArray.mk a == ByteArray.mk b) = true) ↔ ((a == b) = true) := Iff.rfl
  rw [h, beq_iff_eq]
  exact ⟨fun h => by rw [h], fun h => by cases h; rfl⟩
theorem eqStr {t : TypeId} {x y : ByteArray} (h : P.underlying t = some .string) : (Op.equalIn (d + 1) t (.string x) (.string y)).run P w = .ok (x == y) w := by
  rw [run_equalIn_string w d t x y h, beq_toListBytes]
theorem eqB {t : TypeId} {x y : Bool} (h : P.underlying t = some .bool) : (Op.equalIn (d + 1) t (.bool x) (.bool y)).run P w = .ok (x == y) w := run_equalIn_bool w d t x y h
end
section
variable {P : Program} {l : List Value} {w : World} {o : Oper} {t ty : TypeId} {x y : Operand} {xs ys : Array Value} {r : Bool}
theorem x_eqlS (hx : evL l x = .agg xs) (hy : evL l y = .agg ys) (hm : P.eqGuardType P.depth t = false) (h : (Op.equalIn 10000 t (.agg xs) (.agg ys)).run P w = .ok r w) (ho : o.op = .binOp .eql t x y ty) : (execOp (evL l) o).run P w = .ok (.value (.bool r)) w := by
  unfold execOp
  simp only [ho, hx, hy, Sem.run_bind, run_eqGuard_agg (P := P) w .eql t x y xs ys hm, Result.andThen_ok, run_eql_struct, h, Sem.run_pure]
theorem x_neqS (hx : evL l x = .agg xs) (hy : evL l y = .agg ys) (hm : P.eqGuardType P.depth t = false) (h : (Op.equalIn 10000 t (.agg xs) (.agg ys)).run P w = .ok r w) (ho : o.op = .binOp .neq t x y ty) : (execOp (evL l) o).run P w = .ok (.value (.bool (!r))) w := by
  unfold execOp
  simp only [ho, hx, hy, Sem.run_bind, run_eqGuard_agg (P := P) w .neq t x y xs ys hm, Result.andThen_ok, run_neq_struct, h, Sem.run_pure]
end
theorem part_arr {P : Program} {w : World} {t : TypeId} {all pre mid post : List Value} {off n : Nat} (ha : pureSem P (isAgg t) = some true) (hs : pureSem P (sizeOf t) = some n) (he : all = pre ++ (mid ++ post)) (hp : pre.length = off) (hm : mid.length = n) :
    (part t all.toArray off).run P w = .ok (.agg mid.toArray) w := by
  subst he; subst hp; subst hm
  unfold part
  rw [Sem.run_bind, pureSem_run ha]
  simp only [Result.andThen_ok, if_true, Sem.run_bind, pureSem_run hs, Sem.run_pure]
  congr 2
  apply Array.ext'
  simp [List.extract_eq_take_drop]
/-- Arrays of whole numbers. -/
theorem eqArr0 {P : Program} {w : World} {d n : Nat} {t e : TypeId} {k k' : IntKind} (hu : P.underlying t = some (.array n e)) (hs : pureSem P (sizeOf e) = some 1) (he : P.underlying e = some (.int k')) (hag : pureSem P (isAgg e) = some false) (v v' : Vector Int n) :
    (Op.equalIn (d + 2) t (.agg (v.toList.map (Value.int k)).toArray) (.agg (v'.toList.map (Value.int k)).toArray)).run P w = .ok (decide (v = v')) w := by
  have hpart : ∀ (u : Vector Int n) (i : Nat) (hi : i < n), (part e (u.toList.map (Value.int k)).toArray i).run P w = .ok (.int k u[i]) w := by
    intro u i hi
    unfold part
    rw [Sem.run_bind, pureSem_run hag]
    simp [hi]
  unfold Op.equalIn
  simp only [Sem.run_bind, run_underlying hu, Result.andThen_ok, pureSem_run hs, Std.Legacy.Range.forIn_eq_forIn_range', Std.Legacy.Range.size, Nat.sub_zero, Nat.add_sub_cancel, Nat.div_one, Nat.mul_one]
  have key : ∀ (m s : Nat), s + m = n → ((forIn (List.range' s m) ((none, ()) : Option Bool × Unit) fun i (r : Option Bool × Unit) => do
      if (!(← Op.equalIn (d + 1) e (← part e (v.toList.map (Value.int k)).toArray i) (← part e (v'.toList.map (Value.int k)).toArray i))) = true then pure (ForInStep.done ((some false, ()) : Option Bool × Unit)) else do pure PUnit.unit; pure (ForInStep.yield ((none, ()) : Option Bool × Unit)) : Sem (Option Bool × Unit)).run P w) =
      .ok (if (∀ i, (h : i < n) → s ≤ i → v[i] = v'[i]) then (none, ()) else (some false, ())) w := by
    intro m
    induction m with
    | zero =>
      intro s hsn
      rw [if_pos (by intro i h hi; omega)]
      rfl
    | succ m ih =>
      intro s hsn
      have hs' : s < n := by omega
      rw [List.range'_succ, List.forIn_cons]
      simp only [Sem.run_bind, hpart v s hs', hpart v' s hs', Result.andThen_ok, eqI he]
      by_cases h : v[s] = v'[s]
      · simp only [h, beq_self_eq_true, Bool.not_true, Bool.false_eq_true, if_false, Sem.run_bind, Sem.run_pure, Result.andThen_ok]
        rw [ih (s + 1) (by omega)]
        congr 1
        have : (∀ i, (h : i < n) → s + 1 ≤ i → v[i] = v'[i]) ↔ (∀ i, (h : i < n) → s ≤ i → v[i] = v'[i]) := by
          constructor
          · intro h1 i hi hsi
            rcases Nat.eq_or_lt_of_le hsi with rfl | h2
            · exact h
            · exact h1 i hi h2
          · intro h1 i hi hsi; exact h1 i hi (by omega)
        simp only [this]
      · have hb : (v[s] == v'[s]) = false := by simpa using h
        simp only [hb, Bool.not_false, if_true, Sem.run_pure, Result.andThen_ok]
        rw [if_neg (fun h1 => h (h1 s hs' (Nat.le_refl _)))]
  have hk := key n 0 (by omega)
  simp only [Nat.zero_le, forall_const] at hk
  first | rw [hk] | (erw [hk])
  have hiff : (∀ i, (h : i < n) → v[i] = v'[i]) ↔ v = v' := ⟨fun h => Vector.ext h, fun h => by subst h; intros; rfl⟩
  simp only [Result.andThen_ok, hiff]
  by_cases h : v = v'
  · simp [h, Sem.run_pure]
  · simp [h, Sem.run_pure]

theorem encV_int {n : Nat} (k : IntKind) (v : Vector Int n) : encV (encI k) v = v.toList.map (Value.int k) := flat_encI k _
theorem eqArr {P : Program} {w : World} {d n : Nat} {t e : TypeId} {k k' : IntKind} (hu : P.underlying t = some (.array n e)) (hs : pureSem P (sizeOf e) = some 1) (he : P.underlying e = some (.int k')) (hag : pureSem P (isAgg e) = some false) (v v' : Vector Int n) :
    (Op.equalIn (d + 2) t (.agg (encV (encI k) v).toArray) (.agg (encV (encI k) v').toArray)).run P w = .ok (decide (v = v')) w := by
  rw [encV_int, encV_int]; exact eqArr0 hu hs he hag v v'
/-! ### Arrays -/
theorem len_encI (k : IntKind) (x : Int) : (encI k x).length = 1 := rfl
theorem len_encB (x : Bool) : (encB x).length = 1 := rfl
theorem len_encS (x : ByteArray) : (encS x).length = 1 := rfl
theorem one_encI (k : IntKind) (x : Int) : (encI k x).all Value.oneCell' = true := rfl
theorem one_encB (x : Bool) : (encB x).all Value.oneCell' = true := rfl
theorem one_encS (x : ByteArray) : (encS x).all Value.oneCell' = true := rfl
theorem len_encV {α : Type} {n sz : Nat} {enc : α → List Value} (hl : ∀ x, (enc x).length = sz) (v : Vector α n) : (encV enc v).length = n * sz := by unfold encV; rw [flat_len hl, Vector.length_toList]
theorem one_encV {α : Type} {n : Nat} {enc : α → List Value} (h : ∀ x, (enc x).all Value.oneCell' = true) (v : Vector α n) : (encV enc v).all Value.oneCell' = true := flat_one h _
theorem vget_get {α : Type} [Inhabited α] {n : Nat} {v : Vector α n} {i : Int} (h0 : 0 ≤ i) (h1 : i < n) : v.toList[i.toNat]? = some (vget v i) := by
  unfold vget; rw [List.getD_eq_getElem?_getD, List.getElem?_eq_getElem (by rw [Vector.length_toList]; omega)]; rfl
theorem cells_vget {α : Type} [Inhabited α] {n sz : Nat} {enc : α → List Value} {v : Vector α n} {w : World} {b o : Nat} {i : Int} (hc : Cells w ⟨b, o, none⟩ (encV enc v)) (hl : ∀ x, (enc x).length = sz) (h0 : 0 ≤ i) (h1 : i < n) : Cells w ⟨b, o + i.toNat * sz, none⟩ (enc (vget v i)) := by
  obtain ⟨hm, hp⟩ := flat_mid hl (vget_get (v := v) h0 h1)
  exact hc.mid' hp hm
theorem zc_vget {α : Type} [Inhabited α] {n sz : Nat} {enc : α → List Value} {v : Vector α n} {Z : Zm} {b o : Nat} {i : Int} (hc : ZC Z b o (encV enc v)) (hl : ∀ x, (enc x).length = sz) (h0 : 0 ≤ i) (h1 : i < n) : ZC Z b (o + i.toNat * sz) (enc (vget v i)) := by
  obtain ⟨hm, hp⟩ := flat_mid hl (vget_get (v := v) h0 h1)
  exact hc.mid' hp hm
theorem over_vset {α : Type} [Inhabited α] {n sz : Nat} {enc : α → List Value} {v : Vector α n} {pre post : List Value} {i : Int} {x : α} {o : Nat} (hl : ∀ x, (enc x).length = sz) (h0 : 0 ≤ i) (h1 : i < n) (hp : pre.length = o) : over (pre ++ (encV enc v ++ post)) (o + i.toNat * sz) (enc x) = pre ++ (encV enc (vset v i x) ++ post) := by
  obtain ⟨hm, hpl⟩ := flat_mid hl (vget_get (v := v) h0 h1)
  have hi : i.toNat < n := by omega
  have hs : encV enc (vset v i x) = (v.toList.take i.toNat).flatMap enc ++ (enc x ++ (v.toList.drop (i.toNat + 1)).flatMap enc) := by
    unfold encV vset
    have : (v.setIfInBounds i.toNat x).toList = v.toList.take i.toNat ++ x :: v.toList.drop (i.toNat + 1) := by
      have h2 : (v.setIfInBounds i.toNat x).toList = v.toList.set i.toNat x := by
        refine List.ext_getElem? fun j => ?_
        simp [List.getElem?_set]
      rw [h2, List.set_eq_take_append_cons_drop, if_pos (by simpa using hi)]
    rw [this, List.flatMap_append, List.flatMap_cons]
  rw [hs]
  unfold encV
  rw [hm]
  refine (over_mid' (pre := pre ++ (v.toList.take i.toNat).flatMap enc) (old := enc (vget v i)) (post := (v.toList.drop (i.toNat + 1)).flatMap enc ++ post) (by simp [List.append_assoc]) (by rw [List.length_append, hp, hpl]) (by rw [hl, hl])).trans ?_
  simp [List.append_assoc]
/-- A cut out of an array that stays as it is. -/
theorem cutArrZ {α : Type} {n sz : Nat} {enc : α → List Value} {v : Vector α n} {Z : Zm} {b o : Nat} (hc : ZC Z b o (encV enc v)) (hl : ∀ x, (enc x).length = sz) (L H : Nat) (h1 : L ≤ H) (h2 : H ≤ n) (hn : n ≤ 9223372036854775807) :
    ∃ A c, Value.slice (some (if n = L then (⟨b, o, none⟩ : Addr) else (⟨b, o, none⟩ : Addr).add (L * sz))) (H - L) (n - L) = .slice A ((v.toList.take H).drop L).length c ∧ SlZ (flat enc) sz Z A c ((v.toList.take H).drop L) := by
  refine ⟨some (if n = L then ⟨b, o, none⟩ else (⟨b, o, none⟩ : Addr).add (L * sz)), n - L, ?_, ?_, ?_, fun i x hx => ?_⟩
  · congr 1
    simp only [List.length_drop, List.length_take, Vector.length_toList]; omega
  · simp only [List.length_drop, List.length_take, Vector.length_toList]; omega
  · simp only [List.length_drop, List.length_take, Vector.length_toList]; omega
  · have hx' : v.toList[L + i]? = some x := by
      rw [List.getElem?_drop, List.getElem?_take] at hx
      split at hx
      · exact hx
      · cases hx
    have hlt := (List.getElem?_eq_some_iff.1 hx').1
    rw [Vector.length_toList] at hlt
    obtain ⟨hm, hp⟩ := flat_mid hl hx'
    refine ⟨b, o + L * sz, enc x, ?_, rfl, hl x, (hc.mid' hp hm).eq (by rw [Nat.add_mul]; omega)⟩
    rw [if_neg (by omega), add_lit]
section
variable {P : Program} {l : List Value} {w : World} {o : Oper} {t e : TypeId} {x lo hi : Operand} {a : Addr} {n : Nat} {i j : Int} {k k' : IntKind} {v : Value}
theorem x_cutArr_nn {sz : Nat} (hx : evL l x = .pointer (some a)) (hu : P.underlying t = some (.array n e)) (hs : pureSem P (sizeOf e) = some sz) (hr : Value.slice (some (if n = 0 then a else a.add (0 * sz))) (n - 0) (n - 0) = v) (ho : o.op = .slice t x none none none) : (execOp (evL l) o).run P w = .ok (.value v) w := by
  subst hr
  unfold execOp
  simp [ho, hx, Instr.sliceAt, run_underlying hu, Instr.sureAddr, sb_nn, pureSem_run hs]
theorem x_cutArr_sn {sz : Nat} (hx : evL l x = .pointer (some a)) (hl : evL l lo = .int k i) (hu : P.underlying t = some (.array n e)) (hs : pureSem P (sizeOf e) = some sz) (hg : 0 ≤ i ∧ i ≤ (n : Int)) (hr : Value.slice (some (if n = i.toNat then a else a.add (i.toNat * sz))) (n - i.toNat) (n - i.toNat) = v) (ho : o.op = .slice t x (some lo) none none) : (execOp (evL l) o).run P w = .ok (.value v) w := by
  subst hr
  unfold execOp
  simp [ho, hx, hl, Instr.sliceAt, run_underlying hu, Instr.sureAddr, sb_sn _ _ _ hg.1 hg.2, pureSem_run hs]
theorem x_cutArr_ns {sz : Nat} (hx : evL l x = .pointer (some a)) (hl : evL l hi = .int k i) (hu : P.underlying t = some (.array n e)) (hs : pureSem P (sizeOf e) = some sz) (hg : 0 ≤ i ∧ i ≤ (n : Int)) (hr : Value.slice (some (if n = 0 then a else a.add (0 * sz))) (i.toNat - 0) (n - 0) = v) (ho : o.op = .slice t x none (some hi) none) :
    (execOp (evL l) o).run P w = .ok (.value v) w := by
  subst hr
  unfold execOp
  simp [ho, hx, hl, Instr.sliceAt, run_underlying hu, Instr.sureAddr, sb_ns _ _ _ hg.1 hg.2, pureSem_run hs]
theorem x_cutArr_ss {sz : Nat} (hx : evL l x = .pointer (some a)) (hl : evL l lo = .int k i) (hh : evL l hi = .int k' j) (hu : P.underlying t = some (.array n e)) (hs : pureSem P (sizeOf e) = some sz) (hg : 0 ≤ i ∧ i ≤ j ∧ j ≤ (n : Int))
    (hr : Value.slice (some (if n = i.toNat then a else a.add (i.toNat * sz))) (j.toNat - i.toNat) (n - i.toNat) = v) (ho : o.op = .slice t x (some lo) (some hi) none) : (execOp (evL l) o).run P w = .ok (.value v) w := by
  subst hr
  unfold execOp
  simp [ho, hx, hl, hh, Instr.sliceAt, run_underlying hu, Instr.sureAddr, sb_ss _ _ _ hg.1 hg.2.1 hg.2.2, pureSem_run hs]
end
end Go.Proofs.Ytfiamlhhhkiiaaa.K
