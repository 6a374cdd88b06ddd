/- Maps: an object of memory, told as a list of keys and values in the order in which they came. -/
import Derived.Test.YtcjaknnihjcajaaGreatNP
import Derived.MapKept
set_option linter.unusedVariables false
set_option linter.unusedSimpArgs false
namespace Go.Proofs.YtcjaknnihjcajaaGreat.K
open Go Go.RowKit Go.MapKept
/-! ### Plain maps -/
theorem erase_map {α β : Type} (g : α → β) : ∀ (L : List α) (j : Nat), (L.eraseIdx j).map g = (L.map g).eraseIdx j
 | [], _ => rfl
 | e :: L, 0 => rfl
 | e :: L, j + 1 => by simp only [List.map_cons, List.eraseIdx_cons_succ, erase_map g L]
section
variable {κ ν : Type} [DecidableEq κ]
def mget : List (κ × ν) → κ → Option ν
 | [], _ => none
 | p :: r, k => if p.1 = k then some p.2 else mget r k
def mput : List (κ × ν) → κ → ν → List (κ × ν)
 | [], k, v => [(k, v)]
 | p :: r, k, v => if p.1 = k then (k, v) :: r else p :: mput r k v
theorem mget_mput (m : List (κ × ν)) (k k' : κ) (v : ν) : mget (mput m k v) k' = if k = k' then some v else mget m k' := by
  induction m with
  | nil => simp only [mput, mget]
  | cons p r ih =>
    simp only [mput]
    by_cases h : p.1 = k
    · rw [if_pos h]
      simp only [mget, h]
      by_cases h2 : k = k'
      · rw [if_pos h2, if_pos h2]
      · rw [if_neg h2, if_neg h2, if_neg h2]
    · rw [if_neg h]
      simp only [mget, ih]
      by_cases h2 : p.1 = k'
      · rw [if_pos h2, if_pos h2, if_neg (fun e => h (h2.trans e.symm))]
      · rw [if_neg h2, if_neg h2]
end
def kv {κ ν : Type} (eK : κ → Value) (eV : ν → Value) (p : κ × ν) : Value × Value := (eK p.1, eV p.2)
def pairs (es : Array MapEntry) : List (Value × Value) := es.toList.map fun e => (e.key, e.val)
def WfM (es : Array MapEntry) (clock : Nat) : Prop := (es.toList.map (·.born)).Nodup ∧ ∀ x ∈ es.toList, x.born < clock
theorem wfM_nil : WfM #[] 0 := ⟨List.nodup_nil, fun x hx => by simp at hx⟩
theorem WfM.push {es : Array MapEntry} {clock : Nat} (h : WfM es clock) (k v : Value) : WfM (es.push { key := k, val := v, born := clock }) (clock + 1) := by
 constructor
 ·rw [Array.toList_push, List.map_append, List.nodup_append]
  refine ⟨h.1, by simp, fun a ha b hb => ?_⟩
  obtain ⟨x, hx, rfl⟩ := List.mem_map.1 ha
  simp only [List.map_cons, List.map_nil, List.mem_singleton] at hb
  have := h.2 x hx
  omega
 ·intro x hx
  rw [Array.toList_push] at hx
  rcases List.mem_append.1 hx with hx | hx
  ·have := h.2 x hx; omega
  ·rw [List.mem_singleton.1 hx]; exact Nat.lt_succ_self _
theorem WfM.modify {es : Array MapEntry} {clock : Nat} (h : WfM es clock) (j : Nat) (f : MapEntry → MapEntry) (hf : ∀ e, (f e).born = e.born) : WfM (es.modify j f) clock := by
 have e : (es.modify j f).toList.map (·.born) = es.toList.map (·.born) := by
  apply List.ext_getElem?
  intro q
  simp only [List.getElem?_map, Array.getElem?_toList, Array.getElem?_modify]
  by_cases hq : j = q
  ·subst hq; rw [if_pos rfl]; cases es[j]? with
   | none => rfl
   | some x => simp [hf]
  ·rw [if_neg hq]
 refine ⟨by rw [e]; exact h.1, fun x hx => ?_⟩
 have hx2 : x.born ∈ (es.modify j f).toList.map (·.born) := List.mem_map.2 ⟨x, hx, rfl⟩
 rw [e] at hx2
 obtain ⟨y, hy, hxy⟩ := List.mem_map.1 hx2
 rw [← hxy]; exact h.2 y hy
def xmap (b : Nat) (m : List (Value × Value)) : XObj where
 own := (· = b)
 keeps := fun _ _ => False
 holds := fun w => ∃ es clock, w.heap[b]? = some (.map es clock) ∧ pairs es = m ∧ WfM es clock
 stable := fun hb h => by obtain ⟨es, c, h1, h2⟩ := h; exact ⟨es, c, (hb b rfl).trans h1, h2⟩
 there := fun h hb => by obtain ⟨es, c, h1, h2⟩ := h; subst hb; exact heap_lt h1
section
variable {κ ν : Type} [DecidableEq κ] {eK : κ → Value} {eV : ν → Value} {dk : TypeDesc}
def kat : List κ → κ → Option Nat
 | [], _ => none
 | p :: r, k => if p = k then some 0 else (kat r k).map (· + 1)
structure KeyEnc (P : Program) (kt : TypeId) (dk : TypeDesc) (eK : κ → Value) : Prop where
 check : P.underlying kt = some dk → ∀ (w : World) (a : κ) (em : Bool), (Instr.checkKey em 10000 kt (eK a)).run P w = .ok () w
 find : P.underlying kt = some dk → ∀ (w : World) (k : κ) (ks : List κ) (l : List MapEntry), l.map (·.key) = ks.map eK → (Instr.findKey kt (eK k) l).run P w = .ok ((kat ks k).bind fun j => l[j]?.map fun e => (j, e.val)) w
 stay : ∀ (w : World) (a : κ), (Instr.keyThatStays (eK a) (eK a)).run P w = .ok (eK a) w
theorem findNow_kat (key : ∀ a, IsKey dk (eK a)) (inj : ∀ a b, eK a = eK b → a = b) (k : κ) : ∀ (ks : List κ) (l : List MapEntry) (i : Nat), l.map (·.key) = ks.map eK →
    Instr.findNow dk (eK k) l i = some ((kat ks k).bind fun j => l[j]?.map fun e => (i + j, e.val)) := by
  intro ks
  induction ks with
  | nil =>
    intro l i h
    have : l = [] := by cases l with | nil => rfl | cons x r => simp at h
    subst this; rfl
  | cons p r ih =>
    intro l i h
    cases l with
    | nil => simp at h
    | cons e l =>
      simp only [List.map_cons, List.cons.injEq] at h
      obtain ⟨h1, h3⟩ := h
      obtain ⟨r0, hr0, hiff⟩ := sameNow_of_keys (key k) (h1 ▸ key p : IsKey dk e.key)
      by_cases hp : p = k
      · have : r0 = true := hiff.2 (by rw [h1, hp])
        subst this
        simp only [kat, if_pos hp]
        simp [Instr.findNow, hr0]
      · have : r0 = false := by
          cases r0 with
          | false => rfl
          | true => exact absurd (inj _ _ ((hiff.1 rfl).trans h1)).symm hp
        subst this
        have g1 := ih l (i + 1) h3
        simp only [kat, if_neg hp, Instr.findNow, hr0, g1]
        cases hm : kat r k with
        | none => rfl
        | some j =>
          simp only [Option.bind_some, Option.map_some, List.getElem?_cons_succ]
          cases l[j]? with
          | none => rfl
          | some v => simp only [Option.map_some]; congr 3; omega
theorem KeyEnc.plain {P : Program} {kt : TypeId} (key : ∀ a, IsKey dk (eK a)) (inj : ∀ a b, eK a = eK b → a = b) : KeyEnc P kt dk eK where
 check hd w a em := MapKept.run_checkKey hd (key a) em 9999
 find hd w k ks l h := by
  have := findNow_kat key inj k ks l 0 h
  simp only [Nat.zero_add] at this
  exact MapKept.run_findKey hd this
 stay w a := run_keyThatStays (key a)
theorem key_str {P : Program} {kt : TypeId} : KeyEnc P kt .string Value.string := .plain (fun _ => trivial) (fun a b h => by cases h; rfl)
def mat : List (κ × ν) → κ → Option Nat
 | [], _ => none
 | p :: r, k => if p.1 = k then some 0 else (mat r k).map (· + 1)
theorem kat_mat (k : κ) : ∀ (m : List (κ × ν)), kat (m.map (·.1)) k = mat m k
 | [] => rfl
 | p :: r => by simp only [List.map_cons, kat, mat, kat_mat k r]
theorem mat_get (k : κ) : ∀ (m : List (κ × ν)), ((mat m k).isSome = (mget m k).isSome) ∧ ∀ j, mat m k = some j → m[j]? = (mget m k).map (fun v => (k, v)) := by
  intro m
  induction m with
  | nil => exact ⟨rfl, fun j h => by cases h⟩
  | cons p r ih =>
    by_cases hp : p.1 = k
    · simp only [mat, mget, if_pos hp]
      refine ⟨rfl, fun j hj => ?_⟩
      cases hj; subst hp; rfl
    · simp only [mat, mget, if_neg hp]
      refine ⟨?_, fun j hj => ?_⟩
      · rw [← ih.1]; cases mat r k <;> rfl
      · cases hm : mat r k with
        | none => rw [hm] at hj; cases hj
        | some j' =>
          rw [hm] at hj
          simp only [Option.map_some, Option.some.injEq] at hj
          subst hj
          exact ih.2 j' hm
theorem find_mat {P : Program} {w : World} {kt : TypeId} (hK : KeyEnc P kt dk eK) (hd : P.underlying kt = some dk) (k : κ) (m : List (κ × ν)) (l : List MapEntry) (h : l.map (fun e => (e.key, e.val)) = m.map (kv eK eV)) :
    (Instr.findKey kt (eK k) l).run P w = .ok ((mat m k).bind fun j => (mget m k).map fun v => (j, eV v)) w ∧ ((mat m k).isSome = (mget m k).isSome) ∧ ∀ j, mat m k = some j → j < l.length ∧ ∃ e, l[j]? = some e ∧ e.key = eK k := by
  have hk : l.map (·.key) = (m.map (·.1)).map eK := by
    have := congrArg (List.map Prod.fst) h
    simpa [List.map_map, Function.comp_def, kv] using this
  obtain ⟨q1, q2⟩ := mat_get (ν := ν) k m
  have at_ : ∀ j, mat m k = some j → ∃ v e, mget m k = some v ∧ l[j]? = some e ∧ e.key = eK k ∧ e.val = eV v := by
    intro j hj
    have hs : (mget m k).isSome = true := by rw [← q1, hj]; rfl
    obtain ⟨v, hv⟩ := Option.isSome_iff_exists.1 hs
    have hmj : m[j]? = some (k, v) := by rw [q2 j hj, hv]; rfl
    have : (l.map (fun e => (e.key, e.val)))[j]? = some (eK k, eV v) := by rw [h, List.getElem?_map, hmj]; rfl
    rw [List.getElem?_map] at this
    cases he : l[j]? with
    | none => rw [he] at this; cases this
    | some e =>
      rw [he] at this
      simp only [Option.map_some, Option.some.injEq, Prod.mk.injEq] at this
      exact ⟨v, e, hv, rfl, this.1, this.2⟩
  refine ⟨?_, q1, fun j hj => ?_⟩
  · rw [hK.find hd w k _ l hk, kat_mat]
    cases hm : mat m k with
    | none => rfl
    | some j =>
      obtain ⟨v, e, h1, h2, -, h4⟩ := at_ j hm
      simp only [Option.bind_some, h1, h2, Option.map_some, h4]
  · obtain ⟨v, e, h1, h2, h3, -⟩ := at_ j hj
    exact ⟨(List.getElem?_eq_some_iff.1 h2).1, e, h2, h3⟩
theorem mput_none (m : List (κ × ν)) (k : κ) (v : ν) (h : mat m k = none) : mput m k v = m ++ [(k, v)] := by
  induction m with
  | nil => rfl
  | cons p r ih =>
    simp only [mat] at h
    by_cases hp : p.1 = k
    · rw [if_pos hp] at h; cases h
    · rw [if_neg hp] at h
      simp only [mput, if_neg hp]
      cases hm : mat r k with
      | none => rw [ih hm]; rfl
      | some j => rw [hm] at h; cases h
theorem mput_some (m : List (κ × ν)) (k : κ) (v : ν) : ∀ j, mat m k = some j → mput m k v = m.set j (k, v) := by
  induction m with
  | nil => intro j h; cases h
  | cons p r ih =>
    intro j h
    simp only [mat] at h
    by_cases hp : p.1 = k
    · rw [if_pos hp] at h; cases h
      simp only [mput, if_pos hp, List.set_cons_zero]
    · rw [if_neg hp] at h
      simp only [mput, if_neg hp]
      cases hm : mat r k with
      | none => rw [hm] at h; cases h
      | some j' =>
        rw [hm] at h
        simp only [Option.map_some, Option.some.injEq] at h
        subst h
        rw [ih j' hm, List.set_cons_succ]
variable {P : Program} {f : Fx} {k : List Item} {l : List Value} {w w0 : World} {R : Ending → World → Prop} {c : Code} {i : Nat} {rest : List Nat} {d : Option Tmp} {ty : TypeId} {Z : Zm} {xs : List XObj}
theorem run_mapUpdate {b : Nat} {t kt et : TypeId} {m : List (κ × ν)} {k : κ} {v : ν} (hK : KeyEnc P kt dk eK) (hh : (xmap b (m.map (kv eK eV))).holds w) (hu : P.underlying t = some (.map kt et)) (hd : P.underlying kt = some dk) :
    ∃ w', (Instr.mapUpdate t (.map (some b)) (eK k) (eV v)).run P w = .ok () w' ∧ FrP (· = b) w w' ∧ (xmap b ((mput m k v).map (kv eK eV))).holds w' := by
  obtain ⟨es, clock, hb, hm, hwf⟩ := hh
  obtain ⟨g1, g2, g3⟩ := find_mat (P := P) (w := w) (eV := eV) hK hd k m es.toList hm
  have hlt := heap_lt hb
  have fr : ∀ o, FrP (· = b) w { w with heap := w.heap.setIfInBounds b o } := fun o => ⟨rfl, rfl, rfl, by simp, fun j hj hS => by simp [Ne.symm hS], Nat.le_refl _⟩
  cases hj : mat m k with
  | none =>
    rw [hj, Option.bind_none] at g1
    refine ⟨_, by simp [Instr.mapUpdate, run_underlying hu, MapKept.run_getObj_map hb, hK.check hd, g1, MapKept.run_setObj_map _ hb, Result.andThen]; rfl, fr _, ?_⟩
    refine ⟨_, _, (heap_set hb).1, ?_, hwf.push _ _⟩
    rw [mput_none m k v hj, List.map_append]
    have : pairs es = m.map (kv eK eV) := hm
    simp only [pairs, Array.toList_push, List.map_append, List.map_cons, List.map_nil] at this ⊢
    rw [this]; rfl
  | some j =>
    obtain ⟨h1, e, h2, h3⟩ := g3 j hj
    rw [hj] at g2
    obtain ⟨v0, hv0⟩ := Option.isSome_iff_exists.1 g2.symm
    rw [hj, hv0, Option.bind_some, Option.map_some] at g1
    have he : es[j]? = some e := by simpa using h2
    refine ⟨_, by simp [Instr.mapUpdate, run_underlying hu, MapKept.run_getObj_map hb, hK.check hd, g1, he, h3, hK.stay, MapKept.run_setObj_map _ hb, Result.andThen]; rfl, fr _, ?_⟩
    refine ⟨_, _, (heap_set hb).1, ?_, hwf.modify _ _ (fun _ => rfl)⟩
    have hp : pairs es = m.map (kv eK eV) := hm
    rw [mput_some m k v j hj, List.map_set, ← hp]
    apply List.ext_getElem?
    intro q
    simp only [pairs, List.getElem?_map, Array.getElem?_toList, Array.getElem?_modify, List.getElem?_set, List.length_map, Array.length_toList]
    by_cases hq : j = q
    · subst hq
      have hsz : j < es.size := by simpa using h1
      rw [if_pos rfl, if_pos rfl, if_pos hsz, he]; rfl
    · rw [if_neg hq, if_neg hq]
theorem St.setmap {b : Nat} {m m' : List (Value × Value)} {w' : World} (h : St w0 Z (xmap b m :: xs) w) (hf : FrP (· = b) w w') (hb : (xmap b m').holds w') : St w0 Z (xmap b m' :: xs) w' :=
 h.turn hf hb (fun _ h => .inl h) (fun _ _ _ _ h => h.elim) (fun _ _ _ _ h => h)
theorem x_mapUpdate {o : Oper} {w' : World} {t : TypeId} {x y z : Operand} {b : Nat} {k v : Value} (hx : evL l x = .map (some b)) (hy : evL l y = k) (hz : evL l z = v) (h : (Instr.mapUpdate t (.map (some b)) k v).run P w = .ok () w') (ho : o.op = .mapUpdate t x y z) : (execOp (evL l) o).run P w = .ok .skip w' := by
 unfold execOp
 simp only [ho, hx, hy, hz, Sem.run_bind, h, Result.andThen_ok, Sem.run_pure]
theorem r_mapUpdate {b : Nat} {t kt et : TypeId} {x y z : Operand} {m : List (κ × ν)} {kk : κ} {v : ν} (hS : St w0 Z (xmap b (m.map (kv eK eV)) :: xs) w) (ho : opI c i = some (d, .mapUpdate t x y z, ty)) (hw : wantI c l i = true) (hK : KeyEnc P kt dk eK) (hx : evL l x = .map (some b)) (hy : evL l y = eK kk) (hz : evL l z = eV v)
  (hu : P.underlying t = some (.map kt et)) (hd : P.underlying kt = some dk)
  (h : ∀ w', St w0 Z (xmap b ((mput m kk v).map (kv eK eV)) :: xs) w' → Runs P f (.inRegion (opsOf c) rest :: k) (putL l d undef) w' R) : Runs P f (.inRegion (opsOf c) (i :: rest) :: k) l w R := by
 obtain ⟨w', h1, h2, h3⟩ := run_mapUpdate (k := kk) (v := v) hK hS.hd hu hd
 exact r_done ho hw (fun o ho _ => x_mapUpdate hx hy hz h1 ho) (h w' (hS.setmap h2 h3))
theorem x_makeMap {o : Oper} {t : TypeId} (ho : o.op = .makeMap t none) : (execOp (evL l) o).run P w = .ok (.value (.map (some w.heap.size))) (w.alloc (.map #[] 0)) := by
 unfold execOp
 simp [ho, Instr.makeMap, newObj, Sem.run, Result.andThen]
theorem r_makeMap {t : TypeId} (hS : St w0 Z xs w) (ho : opI c i = some (d, .makeMap t none, ty)) (hw : wantI c l i = true)
  (h : ∀ b w', St w0 Z (xmap b [] :: xs) w' → Runs P f (.inRegion (opsOf c) rest :: k) (putL l d (.map (some b))) w' R) : Runs P f (.inRegion (opsOf c) (i :: rest) :: k) l w R := by
 refine r_val ho hw (fun o ho _ => x_makeMap ho) (h _ _ (hS.add (X := xmap w.heap.size []) ⟨rfl, rfl, rfl, ?_, fun j hj _ => (heap_alloc w _).2 j hj, Nat.le_refl _⟩ ⟨_, _, (heap_alloc w _).1, rfl, wfM_nil⟩ (fun _ h => Nat.le_of_eq h.symm)))
 have : (w.alloc (.map #[] 0)).heap = w.heap.push (.map #[] 0) := rfl
 rw [this]; simp
theorem x_lookup {o : Oper} {b : Nat} {t kt et : TypeId} {x y : Operand} {m : List (κ × ν)} {kk : κ} {z : ν} {ok : Bool} (hh : (xmap b (m.map (kv eK eV))).holds w) (hK : KeyEnc P kt dk eK) (hx : evL l x = .map (some b)) (hy : evL l y = eK kk)
    (hu : P.underlying t = some (.map kt et)) (hd : P.underlying kt = some dk) (hz : pureSem P (zeroValue et) = some (eV z)) (ho : o.op = .lookup t x y ok) :
    (execOp (evL l) o).run P w = .ok (.value (if ok = true then .tuple #[eV ((mget m kk).getD z), .bool (mget m kk).isSome] else eV ((mget m kk).getD z))) w := by
  obtain ⟨es, clock, hb, hm, hwf⟩ := hh
  obtain ⟨g1, g2, g3⟩ := find_mat (P := P) (w := w) (eV := eV) hK hd kk m es.toList hm
  unfold execOp
  cases hj : mat m kk with
  | none =>
    rw [hj] at g2
    have hv0 : mget m kk = none := Option.not_isSome_iff_eq_none.1 (by rw [← g2]; simp)
    rw [hj, Option.bind_none] at g1
    cases ok <;> simp [ho, hx, hy, hv0, Instr.lookup, run_underlying hu, MapKept.run_getObj_map hb, hK.check hd, g1, pureSem_run hz, Result.andThen]
  | some j =>
    rw [hj] at g2
    obtain ⟨v0, hv0⟩ := Option.isSome_iff_exists.1 g2.symm
    rw [hj, hv0, Option.bind_some, Option.map_some] at g1
    cases ok <;> simp [ho, hx, hy, hv0, Instr.lookup, run_underlying hu, MapKept.run_getObj_map hb, hK.check hd, g1, Result.andThen]
theorem x_lookup1 {o : Oper} {b : Nat} {t kt et : TypeId} {x y : Operand} {m : List (κ × ν)} {kk : κ} {z : ν} (hh : (xmap b (m.map (kv eK eV))).holds w) (hK : KeyEnc P kt dk eK) (hx : evL l x = .map (some b)) (hy : evL l y = eK kk)
  (hu : P.underlying t = some (.map kt et)) (hd : P.underlying kt = some dk) (hz : pureSem P (zeroValue et) = some (eV z)) (ho : o.op = .lookup t x y false) : (execOp (evL l) o).run P w = .ok (.value (eV ((mget m kk).getD z))) w := x_lookup hh hK hx hy hu hd hz ho
end
end Go.Proofs.YtcjaknnihjcajaaGreat.K
