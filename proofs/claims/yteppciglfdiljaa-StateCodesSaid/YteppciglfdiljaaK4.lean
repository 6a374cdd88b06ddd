/- The engine's '==' of structs. -/
import Derived.Test.YteppciglfdiljaaK3
import Derived.Laws.StructEq
set_option linter.unusedVariables false
set_option linter.unusedSimpArgs false
namespace Go.Proofs.Yteppciglfdiljaa.K
open Go Go.RowKit

def fld (P : Program) (t : TypeId) (i : Nat) : Field := match (P.fieldsOf t)[i]? with | some f => f | none => default
section
variable {P : Program} {d : Nat} {xs ys : Array Value} {f : Field} {fs : List Field} {a b : Value} {r s : Bool} {w : World}
theorem eqF_nil : (Op.eqFields d xs ys []).run P w = .ok true w := by simp [Op.eqFields]
theorem eqF_cons (hn : (f.name != "_") = true) (ha : pureSem P (part f.type xs f.offset) = some a) (hb : pureSem P (part f.type ys f.offset) = some b) (he : (Op.equalIn d f.type a b).run P w = .ok r w) (hr : (Op.eqFields d xs ys fs).run P w = .ok s w) :
    (Op.eqFields d xs ys (f :: fs)).run P w = .ok (r && s) w := by
  have hn' : f.name ≠ "_" := by simpa using hn
  rw [Op.eqFields]
  simp only [if_pos hn', Sem.run_bind, pureSem_run ha, pureSem_run hb, he, Result.andThen_ok]
  cases r
  · simp [Sem.run_pure]
  · simpa using hr
/-- The same, the parts' values known by an equation. -/
theorem eqF_cons' (hn : (f.name != "_") = true) (ha : (part f.type xs f.offset).run P w = .ok a w) (hb : (part f.type ys f.offset).run P w = .ok b w) (he : (Op.equalIn d f.type a b).run P w = .ok r w) (hr : (Op.eqFields d xs ys fs).run P w = .ok s w) :
    (Op.eqFields d xs ys (f :: fs)).run P w = .ok (r && s) w := by
  have hn' : f.name ≠ "_" := by simpa using hn
  rw [Op.eqFields]
  simp only [if_pos hn', Sem.run_bind, ha, hb, he, Result.andThen_ok]
  cases r
  · simp [Sem.run_pure]
  · simpa using hr
theorem eqS {t : TypeId} {fs : List Field} (hu : P.underlying t = some (.struct (P.fieldsOf t))) (hp : P.stoodInHeld t = false) (hf : (P.fieldsOf t).toList = fs) (h : (Op.eqFields d xs ys fs).run P w = .ok r w) : (Op.equalIn (d + 1) t (.agg xs) (.agg ys)).run P w = .ok r w := by
  rw [run_equalIn_struct (P := P) w d t xs ys hu hp, hf]
  exact h
theorem eqI {t : TypeId} {k k' : IntKind} {x y : Int} (h : P.underlying t = some (.int k')) : (Op.equalIn (d + 1) t (.int k x) (.int k y)).run P w = .ok (x == y) w := run_equalIn_int w d t k k' x y h
theorem eqStr {t : TypeId} {x y : ByteArray} (h : P.underlying t = some .string) : (Op.equalIn (d + 1) t (.string x) (.string y)).run P w = .ok (x == y) w := by
  rw [run_equalIn_string w d t x y h, beq_toListBytes]
theorem eqB {t : TypeId} {x y : Bool} (h : P.underlying t = some .bool) : (Op.equalIn (d + 1) t (.bool x) (.bool y)).run P w = .ok (x == y) w := run_equalIn_bool w d t x y h
end
section
variable {P : Program} {l : List Value} {w : World} {o : Oper} {t ty : TypeId} {x y : Operand} {xs ys : Array Value} {r : Bool}
theorem x_eqlS (hx : evL l x = .agg xs) (hy : evL l y = .agg ys) (hm : P.eqGuardType P.depth t = false) (h : (Op.equalIn 10000 t (.agg xs) (.agg ys)).run P w = .ok r w) (ho : o.op = .binOp .eql t x y ty) : (execOp (evL l) o).run P w = .ok (.value (.bool r)) w := by
  unfold execOp
  simp only [ho, hx, hy, Sem.run_bind, run_eqGuard_agg (P := P) w .eql t x y xs ys hm, Result.andThen_ok, run_eql_struct, h, Sem.run_pure]
theorem x_neqS (hx : evL l x = .agg xs) (hy : evL l y = .agg ys) (hm : P.eqGuardType P.depth t = false) (h : (Op.equalIn 10000 t (.agg xs) (.agg ys)).run P w = .ok r w) (ho : o.op = .binOp .neq t x y ty) : (execOp (evL l) o).run P w = .ok (.value (.bool (!r))) w := by
  unfold execOp
  simp only [ho, hx, hy, Sem.run_bind, run_eqGuard_agg (P := P) w .neq t x y xs ys hm, Result.andThen_ok, run_neq_struct, h, Sem.run_pure]
end
theorem part_arr {P : Program} {w : World} {t : TypeId} {all pre mid post : List Value} {off n : Nat} (ha : pureSem P (isAgg t) = some true) (hs : pureSem P (sizeOf t) = some n) (he : all = pre ++ (mid ++ post)) (hp : pre.length = off) (hm : mid.length = n) :
    (part t all.toArray off).run P w = .ok (.agg mid.toArray) w := by
  subst he; subst hp; subst hm
  unfold part
  rw [Sem.run_bind, pureSem_run ha]
  simp only [Result.andThen_ok, if_true, Sem.run_bind, pureSem_run hs, Sem.run_pure]
  congr 2
  apply Array.ext'
  simp [List.extract_eq_take_drop]
/-- Arrays of whole numbers. -/
theorem eqArr {P : Program} {w : World} {d n : Nat} {t e : TypeId} {k k' : IntKind} (hu : P.underlying t = some (.array n e)) (hs : pureSem P (sizeOf e) = some 1) (he : P.underlying e = some (.int k')) (hag : pureSem P (isAgg e) = some false) (v v' : Vector Int n) :
    (Op.equalIn (d + 2) t (.agg (v.toList.map (Value.int k)).toArray) (.agg (v'.toList.map (Value.int k)).toArray)).run P w = .ok (decide (v = v')) w := by
  have hpart : ∀ (u : Vector Int n) (i : Nat) (hi : i < n), (part e (u.toList.map (Value.int k)).toArray i).run P w = .ok (.int k u[i]) w := by
    intro u i hi
    unfold part
    rw [Sem.run_bind, pureSem_run hag]
    simp [hi]
  unfold Op.equalIn
  simp only [Sem.run_bind, run_underlying hu, Result.andThen_ok, pureSem_run hs, Std.Legacy.Range.forIn_eq_forIn_range', Std.Legacy.Range.size, Nat.sub_zero, Nat.add_sub_cancel, Nat.div_one, Nat.mul_one]
  have key : ∀ (m s : Nat), s + m = n → ((forIn (List.range' s m) ((none, ()) : Option Bool × Unit) fun i (r : Option Bool × Unit) => do
      if (!(← Op.equalIn (d + 1) e (← part e (v.toList.map (Value.int k)).toArray i) (← part e (v'.toList.map (Value.int k)).toArray i))) = true then pure (ForInStep.done ((some false, ()) : Option Bool × Unit)) else do pure PUnit.unit; pure (ForInStep.yield ((none, ()) : Option Bool × Unit)) : Sem (Option Bool × Unit)).run P w) =
      .ok (if (∀ i, (h : i < n) → s ≤ i → v[i] = v'[i]) then (none, ()) else (some false, ())) w := by
    intro m
    induction m with
    | zero =>
      intro s hsn
      rw [if_pos (by intro i h hi; omega)]
      rfl
    | succ m ih =>
      intro s hsn
      have hs' : s < n := by omega
      rw [List.range'_succ, List.forIn_cons]
      simp only [Sem.run_bind, hpart v s hs', hpart v' s hs', Result.andThen_ok, eqI he]
      by_cases h : v[s] = v'[s]
      · simp only [h, beq_self_eq_true, Bool.not_true, Bool.false_eq_true, if_false, Sem.run_bind, Sem.run_pure, Result.andThen_ok]
        rw [ih (s + 1) (by omega)]
        congr 1
        have : (∀ i, (h : i < n) → s + 1 ≤ i → v[i] = v'[i]) ↔ (∀ i, (h : i < n) → s ≤ i → v[i] = v'[i]) := by
          constructor
          · intro h1 i hi hsi
            rcases Nat.eq_or_lt_of_le hsi with rfl | h2
            · exact h
            · exact h1 i hi h2
          · intro h1 i hi hsi; exact h1 i hi (by omega)
        simp only [this]
      · have hb : (v[s] == v'[s]) = false := by simpa using h
        simp only [hb, Bool.not_false, if_true, Sem.run_pure, Result.andThen_ok]
        rw [if_neg (fun h1 => h (h1 s hs' (Nat.le_refl _)))]
  have hk := key n 0 (by omega)
  simp only [Nat.zero_le, forall_const] at hk
  first | rw [hk] | (erw [hk])
  have hiff : (∀ i, (h : i < n) → v[i] = v'[i]) ↔ v = v' := ⟨fun h => Vector.ext h, fun h => by subst h; intros; rfl⟩
  simp only [Result.andThen_ok, hiff]
  by_cases h : v = v'
  · simp [h, Sem.run_pure]
  · simp [h, Sem.run_pure]
end Go.Proofs.Yteppciglfdiljaa.K
