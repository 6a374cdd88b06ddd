/- Maps: an object of memory, told as a list of keys and values in the order in which they came. -/
import Derived.Test.YtfiamlhhhkiiaaaNP
import Derived.MapKept
set_option linter.unusedVariables false
set_option linter.unusedSimpArgs false
namespace Go.Proofs.Ytfiamlhhhkiiaaa.K
open Go Go.RowKit Go.MapKept

/-! ### Plain maps -/
theorem erase_map {α β : Type} (g : α → β) : ∀ (L : List α) (j : Nat), (L.eraseIdx j).map g = (L.map g).eraseIdx j
  | [], _ => rfl
  | e :: L, 0 => rfl
  | e :: L, j + 1 => by simp only [List.map_cons, List.eraseIdx_cons_succ, erase_map g L]
section
variable {κ ν : Type} [DecidableEq κ]
def mget : List (κ × ν) → κ → Option ν
  | [], _ => none
  | p :: r, k => if p.1 = k then some p.2 else mget r k
def mput : List (κ × ν) → κ → ν → List (κ × ν)
  | [], k, v => [(k, v)]
  | p :: r, k, v => if p.1 = k then (k, v) :: r else p :: mput r k v
def mdel : List (κ × ν) → κ → List (κ × ν)
  | [], _ => []
  | p :: r, k => if p.1 = k then r else p :: mdel r k
theorem mget_mput (m : List (κ × ν)) (k k' : κ) (v : ν) : mget (mput m k v) k' = if k = k' then some v else mget m k' := by
  induction m with
  | nil => simp only [mput, mget]
  | cons p r ih =>
    simp only [mput]
    by_cases h : p.1 = k
    · rw [if_pos h]
      simp only [mget, h]
      by_cases h2 : k = k'
      · rw [if_pos h2, if_pos h2]
      · rw [if_neg h2, if_neg h2, if_neg h2]
    · rw [if_neg h]
      simp only [mget, ih]
      by_cases h2 : p.1 = k'
      · rw [if_pos h2, if_pos h2, if_neg (fun e => h (h2.trans e.symm))]
      · rw [if_neg h2, if_neg h2]
end
def kv {κ ν : Type} (eK : κ → Value) (eV : ν → Value) (p : κ × ν) : Value × Value := (eK p.1, eV p.2)
def pairs (es : Array MapEntry) : List (Value × Value) := es.toList.map fun e => (e.key, e.val)
/-- The entries' stamps: no two alike, none ahead of its time. -/
def WfM (es : Array MapEntry) (clock : Nat) : Prop := (es.toList.map (·.born)).Nodup ∧ ∀ x ∈ es.toList, x.born < clock
theorem wfM_nil : WfM #[] 0 := ⟨List.nodup_nil, fun x hx => by simp at hx⟩
theorem WfM.push {es : Array MapEntry} {clock : Nat} (h : WfM es clock) (k v : Value) : WfM (es.push { key := k, val := v, born := clock }) (clock + 1) := by
  constructor
  · rw [Array.toList_push, List.map_append, List.nodup_append]
    refine ⟨h.1, by simp, fun a ha b hb => ?_⟩
    obtain ⟨x, hx, rfl⟩ := List.mem_map.1 ha
    simp only [List.map_cons, List.map_nil, List.mem_singleton] at hb
    have := h.2 x hx
    omega
  · intro x hx
    rw [Array.toList_push] at hx
    rcases List.mem_append.1 hx with hx | hx
    · have := h.2 x hx; omega
    · rw [List.mem_singleton.1 hx]; exact Nat.lt_succ_self _
theorem WfM.modify {es : Array MapEntry} {clock : Nat} (h : WfM es clock) (j : Nat) (f : MapEntry → MapEntry) (hf : ∀ e, (f e).born = e.born) : WfM (es.modify j f) clock := by
  have e : (es.modify j f).toList.map (·.born) = es.toList.map (·.born) := by
    apply List.ext_getElem?
    intro q
    simp only [List.getElem?_map, Array.getElem?_toList, Array.getElem?_modify]
    by_cases hq : j = q
    · subst hq; rw [if_pos rfl]; cases es[j]? with
      | none => rfl
      | some x => simp [hf]
    · rw [if_neg hq]
  refine ⟨by rw [e]; exact h.1, fun x hx => ?_⟩
  have hx2 : x.born ∈ (es.modify j f).toList.map (·.born) := List.mem_map.2 ⟨x, hx, rfl⟩
  rw [e] at hx2
  obtain ⟨y, hy, hxy⟩ := List.mem_map.1 hx2
  rw [← hxy]; exact h.2 y hy
def xmap (b : Nat) (m : List (Value × Value)) : XObj where
  own := (· = b)
  keeps := fun _ _ => False
  holds := fun w => ∃ es clock, w.heap[b]? = some (.map es clock) ∧ pairs es = m ∧ WfM es clock
  stable := fun hb h => by obtain ⟨es, c, h1, h2⟩ := h; exact ⟨es, c, (hb b rfl).trans h1, h2⟩
  there := fun h hb => by obtain ⟨es, c, h1, h2⟩ := h; subst hb; exact heap_lt h1

section
variable {κ ν : Type} [DecidableEq κ] {eK : κ → Value} {eV : ν → Value} {dk : TypeDesc}
structure KeyEnc (dk : TypeDesc) (eK : κ → Value) : Prop where
  key : ∀ a, IsKey dk (eK a)
  inj : ∀ a b, eK a = eK b → a = b
theorem key_str : KeyEnc .string Value.string := ⟨fun _ => trivial, fun a b h => by cases h; rfl⟩
theorem key_int (k : IntKind) : KeyEnc (.int k) (Value.int k) := ⟨fun _ => rfl, fun a b h => by cases h; rfl⟩
/-- The first place at which a key stands. -/
def mat : List (κ × ν) → κ → Option Nat
  | [], _ => none
  | p :: r, k => if p.1 = k then some 0 else (mat r k).map (· + 1)
theorem find_mat (hK : KeyEnc dk eK) (k : κ) : ∀ (m : List (κ × ν)) (l : List MapEntry) (i : Nat), l.map (fun e => (e.key, e.val)) = m.map (kv eK eV) →
    Instr.findNow dk (eK k) l i = some ((mat m k).bind fun j => (mget m k).map fun v => (i + j, eV v)) ∧ ((mat m k).isSome = (mget m k).isSome) ∧ ∀ j, mat m k = some j → j < l.length ∧ ∃ e, l[j]? = some e ∧ e.key = eK k := by
  intro m
  induction m with
  | nil =>
    intro l i h
    have : l = [] := by cases l with | nil => rfl | cons x r => simp at h
    subst this
    exact ⟨rfl, rfl, fun j h => by cases h⟩
  | cons p r ih =>
    intro l i h
    cases l with
    | nil => simp at h
    | cons e l =>
      simp only [List.map_cons, List.cons.injEq, kv, Prod.mk.injEq] at h
      obtain ⟨⟨h1, h2⟩, h3⟩ := h
      obtain ⟨r0, hr0, hiff⟩ := sameNow_of_keys (hK.key k) (h1 ▸ hK.key p.1 : IsKey dk e.key)
      by_cases hp : p.1 = k
      · have : r0 = true := hiff.2 (by rw [h1, hp])
        subst this
        simp only [mat, mget, if_pos hp]
        refine ⟨?_, rfl, fun j hj => ?_⟩
        · simp [Instr.findNow, hr0, h2]
        · cases hj; exact ⟨by simp, e, rfl, by rw [h1, hp]⟩
      · have : r0 = false := by
          cases r0 with
          | false => rfl
          | true => exact absurd (hK.inj _ _ ((hiff.1 rfl).trans h1)).symm hp
        subst this
        obtain ⟨g1, g2, g3⟩ := ih l (i + 1) h3
        simp only [mat, mget, if_neg hp]
        refine ⟨?_, ?_, ?_⟩
        · simp only [Instr.findNow, hr0, g1]
          cases hm : mat r k with
          | none => rfl
          | some j =>
            simp only [Option.bind_some, Option.map_some]
            cases mget r k with
            | none => rfl
            | some v => simp only [Option.map_some]; congr 3; omega
        · rw [← g2]; cases mat r k <;> rfl
        · intro j hj
          cases hm : mat r k with
          | none => rw [hm] at hj; cases hj
          | some j' =>
            rw [hm] at hj
            simp only [Option.map_some, Option.some.injEq] at hj
            subst hj
            obtain ⟨q1, e', q2, q3⟩ := g3 j' hm
            exact ⟨by simp only [List.length_cons]; omega, e', by simpa using q2, q3⟩
theorem mput_none (m : List (κ × ν)) (k : κ) (v : ν) (h : mat m k = none) : mput m k v = m ++ [(k, v)] := by
  induction m with
  | nil => rfl
  | cons p r ih =>
    simp only [mat] at h
    by_cases hp : p.1 = k
    · rw [if_pos hp] at h; cases h
    · rw [if_neg hp] at h
      simp only [mput, if_neg hp]
      cases hm : mat r k with
      | none => rw [ih hm]; rfl
      | some j => rw [hm] at h; cases h
theorem mput_some (m : List (κ × ν)) (k : κ) (v : ν) : ∀ j, mat m k = some j → mput m k v = m.set j (k, v) := by
  induction m with
  | nil => intro j h; cases h
  | cons p r ih =>
    intro j h
    simp only [mat] at h
    by_cases hp : p.1 = k
    · rw [if_pos hp] at h; cases h
      simp only [mput, if_pos hp, List.set_cons_zero]
    · rw [if_neg hp] at h
      simp only [mput, if_neg hp]
      cases hm : mat r k with
      | none => rw [hm] at h; cases h
      | some j' =>
        rw [hm] at h
        simp only [Option.map_some, Option.some.injEq] at h
        subst h
        rw [ih j' hm, List.set_cons_succ]
theorem mdel_none (m : List (κ × ν)) (k : κ) (h : mat m k = none) : mdel m k = m := by
  induction m with
  | nil => rfl
  | cons p r ih =>
    simp only [mat] at h
    by_cases hp : p.1 = k
    · rw [if_pos hp] at h; cases h
    · rw [if_neg hp] at h
      simp only [mdel, if_neg hp]
      cases hm : mat r k with
      | none => rw [ih hm]
      | some j => rw [hm] at h; cases h
theorem mdel_some (m : List (κ × ν)) (k : κ) : ∀ j, mat m k = some j → mdel m k = m.eraseIdx j := by
  induction m with
  | nil => intro j h; cases h
  | cons p r ih =>
    intro j h
    simp only [mat] at h
    by_cases hp : p.1 = k
    · rw [if_pos hp] at h; cases h
      simp only [mdel, if_pos hp, List.eraseIdx_zero, List.tail_cons]
    · rw [if_neg hp] at h
      simp only [mdel, if_neg hp]
      cases hm : mat r k with
      | none => rw [hm] at h; cases h
      | some j' =>
        rw [hm] at h
        simp only [Option.map_some, Option.some.injEq] at h
        subst h
        rw [ih j' hm, List.eraseIdx_cons_succ]

variable {P : Program} {f : Fx} {k : List Item} {l : List Value} {w w0 : World} {R : Ending → World → Prop} {c : Code} {i : Nat} {rest : List Nat} {d : Option Tmp} {ty : TypeId} {Z : Zm} {xs : List XObj}
theorem run_mapUpdate {b : Nat} {t kt et : TypeId} {m : List (κ × ν)} {k : κ} {v : ν} (hK : KeyEnc dk eK) (hh : (xmap b (m.map (kv eK eV))).holds w) (hu : P.underlying t = some (.map kt et)) (hd : P.underlying kt = some dk) :
    ∃ w', (Instr.mapUpdate t (.map (some b)) (eK k) (eV v)).run P w = .ok () w' ∧ FrP (· = b) w w' ∧ (xmap b ((mput m k v).map (kv eK eV))).holds w' := by
  obtain ⟨es, clock, hb, hm, hwf⟩ := hh
  obtain ⟨g1, g2, g3⟩ := find_mat (eV := eV) hK k m es.toList 0 hm
  have hlt := heap_lt hb
  have fr : ∀ o, FrP (· = b) w { w with heap := w.heap.setIfInBounds b o } := fun o => ⟨rfl, rfl, rfl, by simp, fun j hj hS => by simp [Ne.symm hS], Nat.le_refl _⟩
  cases hj : mat m k with
  | none =>
    rw [hj, Option.bind_none] at g1
    refine ⟨_, by simp [Instr.mapUpdate, run_underlying hu, MapKept.run_getObj_map hb, MapKept.run_checkKey hd (hK.key k), MapKept.run_findKey hd g1, MapKept.run_setObj_map _ hb, Result.andThen]; rfl, fr _, ?_⟩
    refine ⟨_, _, (heap_set hb).1, ?_, hwf.push _ _⟩
    rw [mput_none m k v hj, List.map_append]
    have : pairs es = m.map (kv eK eV) := hm
    simp only [pairs, Array.toList_push, List.map_append, List.map_cons, List.map_nil] at this ⊢
    rw [this]; rfl
  | some j =>
    obtain ⟨h1, e, h2, h3⟩ := g3 j hj
    rw [hj] at g2
    obtain ⟨v0, hv0⟩ := Option.isSome_iff_exists.1 g2.symm
    rw [hj, hv0, Option.bind_some, Option.map_some, Nat.zero_add] at g1
    have he : es[j]? = some e := by simpa using h2
    refine ⟨_, by simp [Instr.mapUpdate, run_underlying hu, MapKept.run_getObj_map hb, MapKept.run_checkKey hd (hK.key k), MapKept.run_findKey hd g1, he, h3, run_keyThatStays (hK.key k), MapKept.run_setObj_map _ hb, Result.andThen]; rfl, fr _, ?_⟩
    refine ⟨_, _, (heap_set hb).1, ?_, hwf.modify _ _ (fun _ => rfl)⟩
    have hp : pairs es = m.map (kv eK eV) := hm
    rw [mput_some m k v j hj, List.map_set, ← hp]
    apply List.ext_getElem?
    intro q
    simp only [pairs, List.getElem?_map, Array.getElem?_toList, Array.getElem?_modify, List.getElem?_set, List.length_map, Array.length_toList]
    by_cases hq : j = q
    · subst hq
      have hsz : j < es.size := by simpa using h1
      rw [if_pos rfl, if_pos rfl, if_pos hsz, he]; rfl
    · rw [if_neg hq, if_neg hq]
theorem St.setmap {b : Nat} {m m' : List (Value × Value)} {w' : World} (h : St w0 Z (xmap b m :: xs) w) (hf : FrP (· = b) w w') (hb : (xmap b m').holds w') : St w0 Z (xmap b m' :: xs) w' :=
  h.turn hf hb (fun _ h => .inl h) (fun _ _ _ _ h => h.elim) (fun _ _ _ _ h => h)
theorem x_mapUpdate {o : Oper} {w' : World} {t : TypeId} {x y z : Operand} {b : Nat} {k v : Value} (hx : evL l x = .map (some b)) (hy : evL l y = k) (hz : evL l z = v) (h : (Instr.mapUpdate t (.map (some b)) k v).run P w = .ok () w') (ho : o.op = .mapUpdate t x y z) : (execOp (evL l) o).run P w = .ok .skip w' := by
  unfold execOp
  simp only [ho, hx, hy, hz, Sem.run_bind, h, Result.andThen_ok, Sem.run_pure]
theorem r_mapUpdate {b : Nat} {t kt et : TypeId} {x y z : Operand} {m : List (κ × ν)} {kk : κ} {v : ν} (hS : St w0 Z (xmap b (m.map (kv eK eV)) :: xs) w) (ho : opI c i = some (d, .mapUpdate t x y z, ty)) (hw : wantI c l i = true) (hK : KeyEnc dk eK) (hx : evL l x = .map (some b)) (hy : evL l y = eK kk) (hz : evL l z = eV v)
    (hu : P.underlying t = some (.map kt et)) (hd : P.underlying kt = some dk)
    (h : ∀ w', St w0 Z (xmap b ((mput m kk v).map (kv eK eV)) :: xs) w' → Runs P f (.inRegion (opsOf c) rest :: k) (putL l d undef) w' R) : Runs P f (.inRegion (opsOf c) (i :: rest) :: k) l w R := by
  obtain ⟨w', h1, h2, h3⟩ := run_mapUpdate (k := kk) (v := v) hK hS.hd hu hd
  exact r_done ho hw (fun o ho _ => x_mapUpdate hx hy hz h1 ho) (h w' (hS.setmap h2 h3))
theorem x_insert {o : Oper} {w' : World} {t : TypeId} {x y z : Operand} {b : Nat} {k v : Value} (hx : evL l x = .map (some b)) (hy : evL l y = k) (hz : evL l z = v) (h : (Instr.mapUpdate t (.map (some b)) k v).run P w = .ok () w') (ho : o.op = .insert t x y z) : (execOp (evL l) o).run P w = .ok .skip w' := by
  unfold execOp
  simp only [ho, hx, hy, hz, Sem.run_bind, h, Result.andThen_ok, Sem.run_pure]
theorem r_insert {b : Nat} {t kt et : TypeId} {x y z : Operand} {m : List (κ × ν)} {kk : κ} {v : ν} (hS : St w0 Z (xmap b (m.map (kv eK eV)) :: xs) w) (ho : opI c i = some (d, .insert t x y z, ty)) (hw : wantI c l i = true) (hK : KeyEnc dk eK) (hx : evL l x = .map (some b)) (hy : evL l y = eK kk) (hz : evL l z = eV v)
    (hu : P.underlying t = some (.map kt et)) (hd : P.underlying kt = some dk)
    (h : ∀ w', St w0 Z (xmap b ((mput m kk v).map (kv eK eV)) :: xs) w' → Runs P f (.inRegion (opsOf c) rest :: k) (putL l d undef) w' R) : Runs P f (.inRegion (opsOf c) (i :: rest) :: k) l w R := by
  obtain ⟨w', h1, h2, h3⟩ := run_mapUpdate (k := kk) (v := v) hK hS.hd hu hd
  exact r_done ho hw (fun o ho _ => x_insert hx hy hz h1 ho) (h w' (hS.setmap h2 h3))
theorem x_makeMap {o : Oper} {t : TypeId} (ho : o.op = .makeMap t none) : (execOp (evL l) o).run P w = .ok (.value (.map (some w.heap.size))) (w.alloc (.map #[] 0)) := by
  unfold execOp
  simp [ho, Instr.makeMap, newObj, Sem.run, Result.andThen]
theorem r_makeMap {t : TypeId} (hS : St w0 Z xs w) (ho : opI c i = some (d, .makeMap t none, ty)) (hw : wantI c l i = true)
    (h : ∀ b w', St w0 Z (xmap b [] :: xs) w' → Runs P f (.inRegion (opsOf c) rest :: k) (putL l d (.map (some b))) w' R) : Runs P f (.inRegion (opsOf c) (i :: rest) :: k) l w R := by
  refine r_val ho hw (fun o ho _ => x_makeMap ho) (h _ _ (hS.add (X := xmap w.heap.size []) ⟨rfl, rfl, rfl, ?_, fun j hj _ => (heap_alloc w _).2 j hj, Nat.le_refl _⟩ ⟨_, _, (heap_alloc w _).1, rfl, wfM_nil⟩ (fun _ h => Nat.le_of_eq h.symm)))
  have : (w.alloc (.map #[] 0)).heap = w.heap.push (.map #[] 0) := rfl
  rw [this]; simp
theorem x_lookup {o : Oper} {b : Nat} {t kt et : TypeId} {x y : Operand} {m : List (κ × ν)} {kk : κ} {z : ν} {ok : Bool} (hh : (xmap b (m.map (kv eK eV))).holds w) (hK : KeyEnc dk eK) (hx : evL l x = .map (some b)) (hy : evL l y = eK kk)
    (hu : P.underlying t = some (.map kt et)) (hd : P.underlying kt = some dk) (hz : pureSem P (zeroValue et) = some (eV z)) (ho : o.op = .lookup t x y ok) :
    (execOp (evL l) o).run P w = .ok (.value (if ok = true then .tuple #[eV ((mget m kk).getD z), .bool (mget m kk).isSome] else eV ((mget m kk).getD z))) w := by
  obtain ⟨es, clock, hb, hm, hwf⟩ := hh
  obtain ⟨g1, g2, g3⟩ := find_mat (eV := eV) hK kk m es.toList 0 hm
  unfold execOp
  cases hj : mat m kk with
  | none =>
    rw [hj] at g2
    have hv0 : mget m kk = none := Option.not_isSome_iff_eq_none.1 (by rw [← g2]; simp)
    rw [hj, Option.bind_none] at g1
    cases ok <;> simp [ho, hx, hy, hv0, Instr.lookup, run_underlying hu, MapKept.run_getObj_map hb, MapKept.run_checkKey hd (hK.key kk), MapKept.run_findKey hd g1, pureSem_run hz, Result.andThen]
  | some j =>
    rw [hj] at g2
    obtain ⟨v0, hv0⟩ := Option.isSome_iff_exists.1 g2.symm
    rw [hj, hv0, Option.bind_some, Option.map_some, Nat.zero_add] at g1
    cases ok <;> simp [ho, hx, hy, hv0, Instr.lookup, run_underlying hu, MapKept.run_getObj_map hb, MapKept.run_checkKey hd (hK.key kk), MapKept.run_findKey hd g1, Result.andThen]
theorem x_lookup1 {o : Oper} {b : Nat} {t kt et : TypeId} {x y : Operand} {m : List (κ × ν)} {kk : κ} {z : ν} (hh : (xmap b (m.map (kv eK eV))).holds w) (hK : KeyEnc dk eK) (hx : evL l x = .map (some b)) (hy : evL l y = eK kk)
    (hu : P.underlying t = some (.map kt et)) (hd : P.underlying kt = some dk) (hz : pureSem P (zeroValue et) = some (eV z)) (ho : o.op = .lookup t x y false) : (execOp (evL l) o).run P w = .ok (.value (eV ((mget m kk).getD z))) w := x_lookup hh hK hx hy hu hd hz ho
theorem x_lookup2 {o : Oper} {b : Nat} {t kt et : TypeId} {x y : Operand} {m : List (κ × ν)} {kk : κ} {z : ν} (hh : (xmap b (m.map (kv eK eV))).holds w) (hK : KeyEnc dk eK) (hx : evL l x = .map (some b)) (hy : evL l y = eK kk)
    (hu : P.underlying t = some (.map kt et)) (hd : P.underlying kt = some dk) (hz : pureSem P (zeroValue et) = some (eV z)) (ho : o.op = .lookup t x y true) : (execOp (evL l) o).run P w = .ok (.value (.tuple #[eV ((mget m kk).getD z), .bool (mget m kk).isSome])) w := x_lookup hh hK hx hy hu hd hz ho
theorem does_makeMap {or : Oper} {p : Prop} {Post : Value → World → Prop} {t : TypeId} (hS : St w0 Z xs w) (ho : or.op = .makeMap t none) (h : ∀ b w', St w0 Z (xmap b [] :: xs) w' → Post (.map (some b)) w') : Does P (execOp (evL l) or) p w Post := by
  refine .inl ⟨_, _, x_makeMap ho, h _ _ (hS.add (X := xmap w.heap.size []) ⟨rfl, rfl, rfl, ?_, fun j hj _ => (heap_alloc w _).2 j hj, Nat.le_refl _⟩ ⟨_, _, (heap_alloc w _).1, rfl, wfM_nil⟩ (fun _ h => Nat.le_of_eq h.symm))⟩
  have : (w.alloc (.map #[] 0)).heap = w.heap.push (.map #[] 0) := rfl
  rw [this]; simp
theorem does_mapUpdate {or : Oper} {p : Prop} {Post : Value → World → Prop} {b : Nat} {t kt et : TypeId} {x y z : Operand} {m : List (κ × ν)} {kk : κ} {v : ν} (hS : St w0 Z (xmap b (m.map (kv eK eV)) :: xs) w) (ho : or.op = .mapUpdate t x y z) (hp : p) (hK : KeyEnc dk eK) (hx : evL l x = .map (some b)) (hy : evL l y = eK kk) (hz : evL l z = eV v)
    (hu : P.underlying t = some (.map kt et)) (hd : P.underlying kt = some dk) (h : ∀ w', St w0 Z (xmap b ((mput m kk v).map (kv eK eV)) :: xs) w' → Post undef w') : Does P (execOp (evL l) or) p w Post := by
  obtain ⟨w', h1, h2, h3⟩ := run_mapUpdate (k := kk) (v := v) hK hS.hd hu hd
  exact .inr (.inl ⟨hp, w', x_mapUpdate hx hy hz h1 ho, h w' (hS.setmap h2 h3)⟩)
end
theorem x_div {P : Program} {l : List Value} {w : World} {o : Oper} {t ty : TypeId} {x y : Operand} {k : IntKind} {a j : Int} (hx : evL l x = .int k a) (hy : evL l y = .int k j) (h0 : j ≠ 0) :
    (o.op = .binOp .quo t x y ty → (execOp (evL l) o).run P w = .ok (.value (.int k (k.wrap (a.tdiv j)))) w) ∧ (o.op = .binOp .rem t x y ty → (execOp (evL l) o).run P w = .ok (.value (.int k (a.tmod j))) w) := by
  constructor <;> intro ho <;> unfold execOp <;> simp [ho, hx, hy, binOp, eqGuard, Op.intDiv, h0]
end Go.Proofs.Ytfiamlhhhkiiaaa.K
