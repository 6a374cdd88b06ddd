/- The engine's '==' of structs. -/
import Derived.Test.YtcjaknnihjcajaaGreatN5
import Derived.Laws.StructEq
set_option linter.unusedVariables false
set_option linter.unusedSimpArgs false
namespace Go.Proofs.YtcjaknnihjcajaaGreat.K
open Go Go.RowKit
def fld (P : Program) (t : TypeId) (i : Nat) : Field := match (P.fieldsOf t)[i]? with | some f => f | none => default
section
variable {P : Program} {d : Nat} {xs ys : Array Value} {f : Field} {fs : List Field} {a b : Value} {r s : Bool} {w : World}
theorem eqF_nil : (Op.eqFields d xs ys []).run P w = .ok true w := by simp [Op.eqFields]
theorem eqF_cons' (hn : (f.name != "_") = true) (ha : (part f.type xs f.offset).run P w = .ok a w) (hb : (part f.type ys f.offset).run P w = .ok b w) (he : (Op.equalIn d f.type a b).run P w = .ok r w) (hr : (Op.eqFields d xs ys fs).run P w = .ok s w) :
  (Op.eqFields d xs ys (f :: fs)).run P w = .ok (r && s) w := by
 have hn' : f.name ≠ "_" := by simpa using hn
 rw [Op.eqFields]
 simp only [if_pos hn', Sem.run_bind, ha, hb, he, Result.andThen_ok]
 cases r
 ·simp [Sem.run_pure]
 ·simpa using hr
theorem eqS {t : TypeId} {fs : List Field} (hu : P.underlying t = some (.struct (P.fieldsOf t))) (hp : P.stoodInHeld t = false) (hf : (P.fieldsOf t).toList = fs) (h : (Op.eqFields d xs ys fs).run P w = .ok r w) : (Op.equalIn (d + 1) t (.agg xs) (.agg ys)).run P w = .ok r w := by
 rw [run_equalIn_struct (P := P) w d t xs ys hu hp, hf]
 exact h
theorem eqI {t : TypeId} {k k' : IntKind} {x y : Int} (h : P.underlying t = some (.int k')) : (Op.equalIn (d + 1) t (.int k x) (.int k y)).run P w = .ok (x == y) w := run_equalIn_int w d t k k' x y h
theorem ba_beq (x y : ByteArray) : ((x == y) = true) ↔ x = y := by
 cases x with | mk a =>
 cases y with | mk b =>
 have h : ((ByteArray.mk a == ByteArray.mk b) = true) ↔ ((a == b) = true) := Iff.rfl
 rw [h, beq_iff_eq]
 exact ⟨fun h => by rw [h], fun h => by cases h; rfl⟩
theorem eqStr {t : TypeId} {x y : ByteArray} (h : P.underlying t = some .string) : (Op.equalIn (d + 1) t (.string x) (.string y)).run P w = .ok (x == y) w := by
 rw [run_equalIn_string w d t x y h, beq_toListBytes]
end
section
variable {P : Program} {l : List Value} {w : World} {o : Oper} {t ty : TypeId} {x y : Operand} {xs ys : Array Value} {r : Bool}
theorem x_eqlS (hx : evL l x = .agg xs) (hy : evL l y = .agg ys) (hm : P.eqGuardType P.depth t = false) (h : (Op.equalIn 10000 t (.agg xs) (.agg ys)).run P w = .ok r w) (ho : o.op = .binOp .eql t x y ty) : (execOp (evL l) o).run P w = .ok (.value (.bool r)) w := by
 unfold execOp
 simp only [ho, hx, hy, Sem.run_bind, run_eqGuard_agg (P := P) w .eql t x y xs ys hm, Result.andThen_ok, run_eql_struct, h, Sem.run_pure]
theorem x_neqS (hx : evL l x = .agg xs) (hy : evL l y = .agg ys) (hm : P.eqGuardType P.depth t = false) (h : (Op.equalIn 10000 t (.agg xs) (.agg ys)).run P w = .ok r w) (ho : o.op = .binOp .neq t x y ty) : (execOp (evL l) o).run P w = .ok (.value (.bool (!r))) w := by
 unfold execOp
 simp only [ho, hx, hy, Sem.run_bind, run_eqGuard_agg (P := P) w .neq t x y xs ys hm, Result.andThen_ok, run_neq_struct, h, Sem.run_pure]
end
/-! ### Arrays -/
theorem len_encI (k : IntKind) (x : Int) : (encI k x).length = 1 := rfl
theorem len_encB (x : Bool) : (encB x).length = 1 := rfl
theorem len_encS (x : ByteArray) : (encS x).length = 1 := rfl
theorem one_encI (k : IntKind) (x : Int) : (encI k x).all Value.oneCell' = true := rfl
theorem one_encB (x : Bool) : (encB x).all Value.oneCell' = true := rfl
theorem one_encS (x : ByteArray) : (encS x).all Value.oneCell' = true := rfl
theorem len_encV {α : Type} {n sz : Nat} {enc : α → List Value} (hl : ∀ x, (enc x).length = sz) (v : Vector α n) : (encV enc v).length = n * sz := by unfold encV; rw [flat_len hl, Vector.length_toList]
theorem one_encV {α : Type} {n : Nat} {enc : α → List Value} (h : ∀ x, (enc x).all Value.oneCell' = true) (v : Vector α n) : (encV enc v).all Value.oneCell' = true := flat_one h _
theorem vget_get {α : Type} [Inhabited α] {n : Nat} {v : Vector α n} {i : Int} (h0 : 0 ≤ i) (h1 : i < n) : v.toList[i.toNat]? = some (vget v i) := by
 unfold vget; rw [List.getD_eq_getElem?_getD, List.getElem?_eq_getElem (by rw [Vector.length_toList]; omega)]; rfl
theorem cells_vget {α : Type} [Inhabited α] {n sz : Nat} {enc : α → List Value} {v : Vector α n} {w : World} {b o : Nat} {i : Int} (hc : Cells w ⟨b, o, none⟩ (encV enc v)) (hl : ∀ x, (enc x).length = sz) (h0 : 0 ≤ i) (h1 : i < n) : Cells w ⟨b, o + i.toNat * sz, none⟩ (enc (vget v i)) := by
 obtain ⟨hm, hp⟩ := flat_mid hl (vget_get (v := v) h0 h1)
 exact hc.mid' hp hm
theorem over_vset {α : Type} [Inhabited α] {n sz : Nat} {enc : α → List Value} {v : Vector α n} {pre post : List Value} {i : Int} {x : α} {o : Nat} (hl : ∀ x, (enc x).length = sz) (h0 : 0 ≤ i) (h1 : i < n) (hp : pre.length = o) : over (pre ++ (encV enc v ++ post)) (o + i.toNat * sz) (enc x) = pre ++ (encV enc (vset v i x) ++ post) := by
 obtain ⟨hm, hpl⟩ := flat_mid hl (vget_get (v := v) h0 h1)
 have hi : i.toNat < n := by omega
 have hs : encV enc (vset v i x) = (v.toList.take i.toNat).flatMap enc ++ (enc x ++ (v.toList.drop (i.toNat + 1)).flatMap enc) := by
  unfold encV vset
  have : (v.setIfInBounds i.toNat x).toList = v.toList.take i.toNat ++ x :: v.toList.drop (i.toNat + 1) := by
   have h2 : (v.setIfInBounds i.toNat x).toList = v.toList.set i.toNat x := by
    refine List.ext_getElem? fun j => ?_
    simp [List.getElem?_set]
   rw [h2, List.set_eq_take_append_cons_drop, if_pos (by simpa using hi)]
  rw [this, List.flatMap_append, List.flatMap_cons]
 rw [hs]
 unfold encV
 rw [hm]
 refine (over_mid' (pre := pre ++ (v.toList.take i.toNat).flatMap enc) (old := enc (vget v i)) (post := (v.toList.drop (i.toNat + 1)).flatMap enc ++ post) (by simp [List.append_assoc]) (by rw [List.length_append, hp, hpl]) (by rw [hl, hl])).trans ?_
 simp [List.append_assoc]
theorem cutArrZ {α : Type} {n sz : Nat} {enc : α → List Value} {v : Vector α n} {Z : Zm} {b o : Nat} (hc : ZC Z b o (encV enc v)) (hl : ∀ x, (enc x).length = sz) (L H : Nat) (h1 : L ≤ H) (h2 : H ≤ n) (hn : n ≤ 9223372036854775807) :
  ∃ A c, Value.slice (some (if n = L then (⟨b, o, none⟩ : Addr) else (⟨b, o, none⟩ : Addr).add (L * sz))) (H - L) (n - L) = .slice A ((v.toList.take H).drop L).length c ∧ SlZ (flat enc) sz Z A c ((v.toList.take H).drop L) := by
 refine ⟨some (if n = L then ⟨b, o, none⟩ else (⟨b, o, none⟩ : Addr).add (L * sz)), n - L, ?_, ?_, ?_, fun i x hx => ?_⟩
 ·congr 1
  simp only [List.length_drop, List.length_take, Vector.length_toList]; omega
 ·simp only [List.length_drop, List.length_take, Vector.length_toList]; omega
 ·simp only [List.length_drop, List.length_take, Vector.length_toList]; omega
 ·have hx' : v.toList[L + i]? = some x := by
   rw [List.getElem?_drop, List.getElem?_take] at hx
   split at hx
   ·exact hx
   ·cases hx
  have hlt := (List.getElem?_eq_some_iff.1 hx').1
  rw [Vector.length_toList] at hlt
  obtain ⟨hm, hp⟩ := flat_mid hl hx'
  refine ⟨b, o + L * sz, enc x, ?_, rfl, hl x, (hc.mid' hp hm).eq (by rw [Nat.add_mul]; omega)⟩
  rw [if_neg (by omega), add_lit]
section
variable {P : Program} {l : List Value} {w : World} {o : Oper} {t e : TypeId} {x lo hi : Operand} {a : Addr} {n : Nat} {i j : Int} {k k' : IntKind} {v : Value}
theorem x_cutArr_nn {sz : Nat} (hx : evL l x = .pointer (some a)) (hu : P.underlying t = some (.array n e)) (hs : pureSem P (sizeOf e) = some sz) (hr : Value.slice (some (if n = 0 then a else a.add (0 * sz))) (n - 0) (n - 0) = v) (ho : o.op = .slice t x none none none) : (execOp (evL l) o).run P w = .ok (.value v) w := by
 subst hr
 unfold execOp
 simp [ho, hx, Instr.sliceAt, run_underlying hu, Instr.sureAddr, sb_nn, pureSem_run hs]
theorem x_cutArr_sn {sz : Nat} (hx : evL l x = .pointer (some a)) (hl : evL l lo = .int k i) (hu : P.underlying t = some (.array n e)) (hs : pureSem P (sizeOf e) = some sz) (hg : 0 ≤ i ∧ i ≤ (n : Int)) (hr : Value.slice (some (if n = i.toNat then a else a.add (i.toNat * sz))) (n - i.toNat) (n - i.toNat) = v) (ho : o.op = .slice t x (some lo) none none) : (execOp (evL l) o).run P w = .ok (.value v) w := by
 subst hr
 unfold execOp
 simp [ho, hx, hl, Instr.sliceAt, run_underlying hu, Instr.sureAddr, sb_sn _ _ _ hg.1 hg.2, pureSem_run hs]
end
end Go.Proofs.YtcjaknnihjcajaaGreat.K
