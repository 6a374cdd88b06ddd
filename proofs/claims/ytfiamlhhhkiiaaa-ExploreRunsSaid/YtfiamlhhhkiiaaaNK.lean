/- Maps whose values are slices that stay as they are; an entry taken out of a map. -/
import Derived.Test.YtfiamlhhhkiiaaaNM
set_option linter.unusedVariables false
set_option linter.unusedSimpArgs false
set_option linter.unusedSectionVars false
namespace Go.Proofs.Ytfiamlhhhkiiaaa.K
open Go Go.RowKit Go.MapKept

abbrev Hh := Option Addr × Nat
def eVH {α : Type} (x : Hh × List α) : Value := .slice x.1.1 x.2.length x.1.2
section
variable {κ α : Type} [DecidableEq κ]
/-- The map m, of which mh tells where each value lies; the values stay as they are. -/
structure MZ (enc : α → List Value) (sz : Nat) (Z : Zm) (mh : List (κ × Hh × List α)) (m : List (κ × List α)) : Prop where
  er : mh.map (fun p => (p.1, p.2.2)) = m
  st : ∀ p ∈ mh, SlZ (flat enc) sz Z p.2.1.1 p.2.1.2 p.2.2
variable {enc : α → List Value} {sz : Nat} {Z Z' : Zm} {mh : List (κ × Hh × List α)} {m : List (κ × List α)} {A : Option Addr} {c : Nat} {t : List α} {k : κ}
theorem MZ.nil : MZ enc sz Z ([] : List (κ × Hh × List α)) [] := ⟨rfl, fun p hp => by simp at hp⟩
theorem MZ.up (h : MZ enc sz Z mh m) (hz : Zm.Le Z Z') : MZ enc sz Z' mh m := ⟨h.er, fun p hp => (h.st p hp).up hz⟩
theorem mput_er (k : κ) (x : Hh × List α) : ∀ mh : List (κ × Hh × List α), (mput mh k x).map (fun p => (p.1, p.2.2)) = mput (mh.map (fun p => (p.1, p.2.2))) k x.2
  | [] => rfl
  | p :: mh => by
    simp only [mput, List.map_cons]
    by_cases h : p.1 = k
    · rw [if_pos h, if_pos h]; rfl
    · rw [if_neg h, if_neg h, List.map_cons, mput_er k x mh]
theorem mput_mem {ν : Type} {k : κ} {x : ν} : ∀ {mh : List (κ × ν)} {p : κ × ν}, p ∈ mput mh k x → p ∈ mh ∨ p = (k, x)
  | [], p, h => by simp only [mput, List.mem_singleton] at h; exact .inr h
  | q :: mh, p, h => by
    simp only [mput] at h
    by_cases e : q.1 = k
    · rw [if_pos e] at h
      rcases List.mem_cons.1 h with h | h
      · exact .inr h
      · exact .inl (List.mem_cons_of_mem _ h)
    · rw [if_neg e] at h
      rcases List.mem_cons.1 h with h | h
      · exact .inl (h ▸ List.mem_cons_self ..)
      · rcases mput_mem h with h | h
        · exact .inl (List.mem_cons_of_mem _ h)
        · exact .inr h
theorem MZ.put (h : MZ enc sz Z mh m) (k : κ) (hs : SlZ (flat enc) sz Z A c t) : MZ enc sz Z (mput mh k ((A, c), t)) (mput m k t) :=
  ⟨by rw [mput_er, h.er], fun p hp => by
    rcases mput_mem hp with hp | rfl
    · exact h.st p hp
    · exact hs⟩
theorem mget_er (k : κ) : ∀ mh : List (κ × Hh × List α), mget (mh.map (fun p => (p.1, p.2.2))) k = (mget mh k).map (·.2)
  | [] => rfl
  | p :: mh => by
    simp only [mget, List.map_cons]
    by_cases h : p.1 = k
    · rw [if_pos h, if_pos h]; rfl
    · rw [if_neg h, if_neg h, mget_er k mh]
theorem mget_mem {ν : Type} {k : κ} {x : ν} : ∀ {mh : List (κ × ν)}, mget mh k = some x → (k, x) ∈ mh
  | [], h => by cases h
  | p :: mh, h => by
    simp only [mget] at h
    by_cases e : p.1 = k
    · rw [if_pos e] at h
      have : p = (k, x) := by rw [← e, ← Option.some.inj h]
      rw [this]; exact List.mem_cons_self ..
    · rw [if_neg e] at h
      exact List.mem_cons_of_mem _ (mget_mem h)
theorem MZ.get (h : MZ enc sz Z mh m) (k : κ) : ∃ A c, (mget mh k).getD ((none, 0), []) = ((A, c), (mget m k).getD []) ∧ (mget mh k).isSome = (mget m k).isSome ∧ SlZ (flat enc) sz Z A c ((mget m k).getD []) := by
  have he := mget_er k mh
  rw [h.er] at he
  cases hm : mget mh k with
  | none =>
    rw [hm] at he
    rw [he]
    exact ⟨none, 0, rfl, rfl, SlZ.nil _ _ _ _ _⟩
  | some x =>
    rw [hm] at he
    rw [he]
    exact ⟨x.1.1, x.1.2, rfl, rfl, h.st _ (mget_mem hm)⟩
end
section
variable {κ α ν : Type} [DecidableEq κ] {eK : κ → Value} {eV : ν → Value} {dk : TypeDesc}
variable {P : Program} {f : Fx} {k : List Item} {l : List Value} {w w0 : World} {R : Ending → World → Prop} {c : Code} {i : Nat} {rest : List Nat} {d : Option Tmp} {ty : TypeId} {Z : Zm} {xs : List XObj}
theorem x_lookupZ1 {o : Oper} {b : Nat} {t kt et : TypeId} {x y : Operand} {mh : List (κ × Hh × List α)} {kk : κ} {A : Option Addr} {cc : Nat} {tt : List α} (hh : (xmap b (mh.map (kv eK eVH))).holds w) (hv : (mget mh kk).getD ((none, 0), []) = ((A, cc), tt)) (hK : KeyEnc dk eK) (hx : evL l x = .map (some b)) (hy : evL l y = eK kk)
    (hu : P.underlying t = some (.map kt et)) (hd : P.underlying kt = some dk) (hz : pureSem P (zeroValue et) = some (.slice none 0 0)) (ho : o.op = .lookup t x y false) : (execOp (evL l) o).run P w = .ok (.value (.slice A tt.length cc)) w := by
  have := x_lookup1 (z := ((none, 0), ([] : List α))) hh hK hx hy hu hd hz ho
  rw [hv] at this; exact this
theorem x_lookupZ2 {o : Oper} {b : Nat} {t kt et : TypeId} {x y : Operand} {mh : List (κ × Hh × List α)} {kk : κ} {A : Option Addr} {cc : Nat} {tt : List α} {q : Bool} (hh : (xmap b (mh.map (kv eK eVH))).holds w) (hv : (mget mh kk).getD ((none, 0), []) = ((A, cc), tt)) (hq : (mget mh kk).isSome = q) (hK : KeyEnc dk eK) (hx : evL l x = .map (some b)) (hy : evL l y = eK kk)
    (hu : P.underlying t = some (.map kt et)) (hd : P.underlying kt = some dk) (hz : pureSem P (zeroValue et) = some (.slice none 0 0)) (ho : o.op = .lookup t x y true) : (execOp (evL l) o).run P w = .ok (.value (.tuple #[.slice A tt.length cc, .bool q])) w := by
  have := x_lookup2 (z := ((none, 0), ([] : List α))) hh hK hx hy hu hd hz ho
  rw [hv, hq] at this; exact this
/-- A map that may be none (then nothing is in it). -/
def xmo : Option Nat → List (Value × Value) → XObj
  | some b, m => xmap b m
  | none, m => { own := fun _ => False, keeps := fun _ _ => False, holds := fun _ => m = [], stable := fun _ h => h, there := fun _ h => h.elim }
theorem St.xmoNone (hS : St w0 Z xs w) : St w0 Z (xmo none [] :: xs) w := by
  have hn : ∀ b, ¬ (xmo none []).own b := fun b h => h
  refine ⟨hS.fr, hS.dr, hS.zc, hS.zb, ?_, ?_, List.pairwise_cons.2 ⟨fun Y _ b h => absurd h (hn b), hS.ap⟩, ?_, ?_⟩
  · intro X hX
    rcases List.mem_cons.1 hX with rfl | hX
    · exact rfl
    · exact hS.ob X hX
  · intro X hX b hb
    rcases List.mem_cons.1 hX with rfl | hX
    · exact absurd hb (hn b)
    · exact hS.new X hX b hb
  · intro X hX b o v hz hb
    rcases List.mem_cons.1 hX with rfl | hX
    · exact absurd hb (hn b)
    · exact hS.zx X hX b o v hz hb
  · intro X hX b x hz hb
    rcases List.mem_cons.1 hX with rfl | hX
    · exact hn b hb
    · exact hS.zy X hX b x hz hb
theorem x_lookupO {o : Oper} {b : Option Nat} {t kt et : TypeId} {x y : Operand} {m : List (κ × ν)} {kk : κ} {z : ν} {ok : Bool} (hh : (xmo b (m.map (kv eK eV))).holds w) (hK : KeyEnc dk eK) (hx : evL l x = .map b) (hy : evL l y = eK kk)
    (hu : P.underlying t = some (.map kt et)) (hd : P.underlying kt = some dk) (hz : pureSem P (zeroValue et) = some (eV z)) (ho : o.op = .lookup t x y ok) :
    (execOp (evL l) o).run P w = .ok (.value (if ok = true then .tuple #[eV ((mget m kk).getD z), .bool (mget m kk).isSome] else eV ((mget m kk).getD z))) w := by
  cases b with
  | some b => exact x_lookup hh hK hx hy hu hd hz ho
  | none =>
    have hm : m.map (kv eK eV) = [] := hh
    have hm2 : m = [] := List.map_eq_nil_iff.1 hm
    subst hm2
    have hv0 : mget ([] : List (κ × ν)) kk = none := rfl
    obtain ⟨g1, -, -⟩ := find_mat (eV := eV) hK kk ([] : List (κ × ν)) [] 0 rfl
    have g1 := g1
    rw [show mat ([] : List (κ × ν)) kk = none from rfl, Option.bind_none] at g1
    unfold execOp
    cases ok <;> simp [ho, hx, hy, hv0, Instr.lookup, run_underlying hu, MapKept.run_checkKey hd (hK.key kk), MapKept.run_findKey hd g1, pureSem_run hz, Result.andThen]
theorem x_lookupO1 {o : Oper} {b : Option Nat} {t kt et : TypeId} {x y : Operand} {m : List (κ × ν)} {kk : κ} {z : ν} (hh : (xmo b (m.map (kv eK eV))).holds w) (hK : KeyEnc dk eK) (hx : evL l x = .map b) (hy : evL l y = eK kk)
    (hu : P.underlying t = some (.map kt et)) (hd : P.underlying kt = some dk) (hz : pureSem P (zeroValue et) = some (eV z)) (ho : o.op = .lookup t x y false) : (execOp (evL l) o).run P w = .ok (.value (eV ((mget m kk).getD z))) w := x_lookupO hh hK hx hy hu hd hz ho
theorem x_lookupO2 {o : Oper} {b : Option Nat} {t kt et : TypeId} {x y : Operand} {m : List (κ × ν)} {kk : κ} {z : ν} (hh : (xmo b (m.map (kv eK eV))).holds w) (hK : KeyEnc dk eK) (hx : evL l x = .map b) (hy : evL l y = eK kk)
    (hu : P.underlying t = some (.map kt et)) (hd : P.underlying kt = some dk) (hz : pureSem P (zeroValue et) = some (eV z)) (ho : o.op = .lookup t x y true) : (execOp (evL l) o).run P w = .ok (.value (.tuple #[eV ((mget m kk).getD z), .bool (mget m kk).isSome])) w := x_lookupO hh hK hx hy hu hd hz ho
theorem x_lookupZO1 {o : Oper} {b : Option Nat} {t kt et : TypeId} {x y : Operand} {mh : List (κ × Hh × List α)} {kk : κ} {A : Option Addr} {cc : Nat} {tt : List α} (hh : (xmo b (mh.map (kv eK eVH))).holds w) (hv : (mget mh kk).getD ((none, 0), []) = ((A, cc), tt)) (hK : KeyEnc dk eK) (hx : evL l x = .map b) (hy : evL l y = eK kk)
    (hu : P.underlying t = some (.map kt et)) (hd : P.underlying kt = some dk) (hz : pureSem P (zeroValue et) = some (.slice none 0 0)) (ho : o.op = .lookup t x y false) : (execOp (evL l) o).run P w = .ok (.value (.slice A tt.length cc)) w := by
  have := x_lookupO1 (z := ((none, 0), ([] : List α))) hh hK hx hy hu hd hz ho
  rw [hv] at this; exact this
theorem x_lookupZO2 {o : Oper} {b : Option Nat} {t kt et : TypeId} {x y : Operand} {mh : List (κ × Hh × List α)} {kk : κ} {A : Option Addr} {cc : Nat} {tt : List α} {q : Bool} (hh : (xmo b (mh.map (kv eK eVH))).holds w) (hv : (mget mh kk).getD ((none, 0), []) = ((A, cc), tt)) (hq : (mget mh kk).isSome = q) (hK : KeyEnc dk eK) (hx : evL l x = .map b) (hy : evL l y = eK kk)
    (hu : P.underlying t = some (.map kt et)) (hd : P.underlying kt = some dk) (hz : pureSem P (zeroValue et) = some (.slice none 0 0)) (ho : o.op = .lookup t x y true) : (execOp (evL l) o).run P w = .ok (.value (.tuple #[.slice A tt.length cc, .bool q])) w := by
  have := x_lookupO2 (z := ((none, 0), ([] : List α))) hh hK hx hy hu hd hz ho
  rw [hv, hq] at this; exact this
theorem WfM.erase {es : Array MapEntry} {clock : Nat} (h : WfM es clock) (j : Nat) : WfM (es.eraseIdxIfInBounds j) clock := by
  have e : (es.eraseIdxIfInBounds j).toList = es.toList.eraseIdx j := by simp [Array.toList_eraseIdxIfInBounds]
  constructor
  · rw [e]
    rw [erase_map]; exact h.1.sublist (List.eraseIdx_sublist ..)
  · intro x hx
    rw [e] at hx
    exact h.2 x (List.mem_of_mem_eraseIdx hx)
theorem run_delete {b : Nat} {t kt et u ty : TypeId} {m : List (κ × ν)} {kk : κ} (hK : KeyEnc dk eK) (hh : (xmap b (m.map (kv eK eV))).holds w) (hu : P.underlying t = some (.map kt et)) (hd : P.underlying kt = some dk) :
    ∃ w', (Builtin.delete_ #[t, u] ty #[.map (some b), eK kk]).run P w = .ok (.tuple #[]) w' ∧ FrP (· = b) w w' ∧ (xmap b ((mdel m kk).map (kv eK eV))).holds w' := by
  obtain ⟨es, clock, hb, hm, hwf⟩ := hh
  obtain ⟨g1, g2, g3⟩ := find_mat (eV := eV) hK kk m es.toList 0 hm
  have fr : ∀ o, FrP (· = b) w { w with heap := w.heap.setIfInBounds b o } := fun o => ⟨rfl, rfl, rfl, by simp, fun j hj hS => by simp [Ne.symm hS], Nat.le_refl _⟩
  cases hj : mat m kk with
  | none =>
    rw [hj, Option.bind_none] at g1
    refine ⟨_, by simp [Builtin.delete_, run_underlying hu, MapKept.run_getObj_map hb, MapKept.run_checkKey hd (hK.key kk), MapKept.run_findKey hd g1, MapKept.run_setObj_map _ hb, Result.andThen]; rfl, fr _, ?_⟩
    refine ⟨_, _, (heap_set hb).1, ?_, hwf⟩
    rw [mdel_none m kk hj]; exact hm
  | some j =>
    obtain ⟨h1, e, h2, h3⟩ := g3 j hj
    rw [hj] at g2
    obtain ⟨v0, hv0⟩ := Option.isSome_iff_exists.1 g2.symm
    rw [hj, hv0, Option.bind_some, Option.map_some, Nat.zero_add] at g1
    refine ⟨_, by simp [Builtin.delete_, run_underlying hu, MapKept.run_getObj_map hb, MapKept.run_checkKey hd (hK.key kk), MapKept.run_findKey hd g1, MapKept.run_setObj_map _ hb, Result.andThen]; rfl, fr _, ?_⟩
    refine ⟨_, _, (heap_set hb).1, ?_, hwf.erase j⟩
    have hp : es.toList.map (fun e => (e.key, e.val)) = m.map (kv eK eV) := hm
    rw [mdel_some m kk j hj]
    unfold pairs
    have e1 : (es.eraseIdxIfInBounds j).toList = es.toList.eraseIdx j := by simp [Array.toList_eraseIdxIfInBounds]
    rw [e1, erase_map, erase_map, hp]
theorem r_delete {b : Nat} {t kt et u : TypeId} {x y : Operand} {m : List (κ × ν)} {kk : κ} (hS : St w0 Z (xmap b (m.map (kv eK eV)) :: xs) w) (ho : opI c i = some (d, .call { callee := .builtin .delete, args := #[x, y], argTypes := #[t, u] }, ty)) (hw : wantI c l i = true) (hK : KeyEnc dk eK) (hx : evL l x = .map (some b)) (hy : evL l y = eK kk)
    (hu : P.underlying t = some (.map kt et)) (hd : P.underlying kt = some dk)
    (h : ∀ w', St w0 Z (xmap b ((mdel m kk).map (kv eK eV)) :: xs) w' → Runs P f (.inRegion (opsOf c) rest :: k) (putL l d (.tuple #[])) w' R) : Runs P f (.inRegion (opsOf c) (i :: rest) :: k) l w R := by
  obtain ⟨w', h1, h2, h3⟩ := run_delete (P := P) (u := u) (ty := ty) (kk := kk) hK hS.hd hu hd
  refine r_val ho hw (fun o hop hty => ?_) (h w' (hS.setmap h2 h3))
  unfold execOp
  subst hty
  simp only [hop, resolve, invoke, builtin, Sem.run_bind, Sem.run_pure, Result.andThen_ok, List.map_toArray, List.map_cons, List.map_nil, hx, hy, h1]
end
end Go.Proofs.Ytfiamlhhhkiiaaa.K
