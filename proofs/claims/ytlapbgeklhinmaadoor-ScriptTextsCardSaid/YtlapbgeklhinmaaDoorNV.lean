/- Functions of Go's library, told in the engine's words; what stays true all along (Env): tables, and that draws are not counted. -/
import Derived.Test.YtlapbgeklhinmaaDoorNL
import Derived.Test.YtlapbgeklhinmaaDoorLH
import Derived.Sort.Grow
import Derived.Lib.LaidTab
import Derived.Lib.AtoiErrMem

set_option linter.unusedVariables false
set_option linter.unusedSimpArgs false
set_option maxRecDepth 100000
namespace Go.Proofs.YtlapbgeklhinmaaDoor.K
open Go Go.RowKit Go.Sort

/-- A table that stays. -/
def Tz (P : Program) (Z : Zm) (name : String) (k : IntKind) (zs : List Int) : Prop := ∃ g o, P.globalNamed name = some g ∧ Z.blk g o ∧ ∀ w : World, w.heap[g]? = some o → Lib.TabIs P w name k zs
section
variable {P : Program} {Z Z' : Zm} {name : String} {k : IntKind} {zs : List Int} {w0 w : World} {xs : List XObj}
theorem Tz.up (h : Tz P Z name k zs) (hz : Zm.Le Z Z') : Tz P Z' name k zs := by
  obtain ⟨g, o, h1, h2, h3⟩ := h
  exact ⟨g, o, h1, hz.blk _ _ h2, h3⟩
theorem Tz.tab (h : Tz P Z name k zs) (hS : St w0 Z xs w) : Lib.TabIs P w name k zs := by
  obtain ⟨g, o, h1, h2, h3⟩ := h
  exact h3 w (hS.zb g o h2)
theorem Tz.of {W : World} (h : Lib.TabIs P W name k zs) : Tz P (Zold W) name k zs := by
  unfold Lib.TabIs World.var? at h
  cases hg : P.globalNamed name with
  | none => rw [hg] at h; cases h
  | some g =>
    rw [hg] at h
    simp only [Option.bind_some] at h
    cases ho : W.heap[g]? with
    | none => rw [ho] at h; cases h
    | some o =>
      refine ⟨g, o, hg, ho, fun w hw => ?_⟩
      unfold Lib.TabIs World.var?
      rw [hg]
      simp only [Option.bind_some]
      rw [hw, ← ho]; exact h
theorem St.grown {q : Nat} {os : Array Obj} (h : St w0 Z xs w) : St w0 Z xs (grow (w.drewN q) os) := by
  refine h.extD ⟨rfl, rfl, rfl, ?_, fun i hi _ => ?_⟩ (fun _ => ?_)
  · simp [grow, World.drewN]
  · simp only [grow, World.drewN]
    rw [Array.getElem?_append_left hi]
  · simp [grow, World.drewN]
end
/-- A package-level variable of one cell that stays. -/
def Gc (Z : Zm) (g : Nat) (v : Value) : Prop := ∃ o, Z.blk g o ∧ ∀ w : World, w.heap[g]? = some o → w.cell? ⟨g, 0, none⟩ = some v
theorem Gc.up {Z Z' : Zm} {g : Nat} {v : Value} (h : Gc Z g v) (hz : Zm.Le Z Z') : Gc Z' g v := by
  obtain ⟨o, h1, h2⟩ := h
  exact ⟨o, hz.blk _ _ h1, h2⟩
theorem Gc.cell {Z : Zm} {g : Nat} {v : Value} {w0 w : World} {xs : List XObj} (h : Gc Z g v) (hS : St w0 Z xs w) : w.cell? ⟨g, 0, none⟩ = some v := by
  obtain ⟨o, h1, h2⟩ := h
  exact h2 w (hS.zb g o h1)
theorem Gc.of {W : World} {g : Nat} {v : Value} (h : W.cell? ⟨g, 0, none⟩ = some v) : Gc (Zold W) g v := by
  cases ho : W.heap[g]? with
  | none => rw [World.cell?, ho] at h; cases h
  | some o => exact ⟨o, ho, fun w hw => by rw [World.cell_of_blk (hw.trans ho.symm)]; exact h⟩
structure Env (Z : Zm) : Prop where
  nm : ¬ Z.mono
  t0 : Tz Tryd.prog Z "internal/strconv.uint64pow10" .u64 Lib.pow10Tab
  ml : ∃ m : Int, Gc Z 0 (.int .i64 m)
  es : ∃ (t : TypeId) (p : Value), Gc Z 2 (.iface t p)
  er : ∃ (t : TypeId) (p : Value), Gc Z 3 (.iface t p)
theorem Env.up {Z Z' : Zm} (h : Env Z) (hz : Zm.Le Z Z') : Env Z' := ⟨fun m => h.nm (hz.mono.1 m), h.t0.up hz, h.ml.imp fun _ x => x.up hz, h.es.imp fun _ x => x.imp fun _ y => y.up hz, h.er.imp fun _ x => x.imp fun _ y => y.up hz⟩

/-- An integer's decimal numeral. -/
def itoaB (n : Int) : ByteArray := ⟨(Lib.itoa n).toArray⟩
def strconv_Itoa.f (a0 : Int) : Option ByteArray := if -9223372036854775808 ≤ a0 ∧ a0 ≤ 9223372036854775807 then some (itoaB a0) else none
theorem strconv_Itoa.ok (a0 : Int) {w0 : World} {Z : Zm} {fs : List XObj} {w : World} (hS0 : St w0 Z (fs) w) (hE : Env Z) {q0 : ByteArray} (hp0 : strconv_Itoa.f a0 = some q0) :
    Calls Tryd.prog 36 #[.int .i64 a0] w (fun e w' => e = .returned (.string q0) ∧ St w0 Z (fs) w') := by
  unfold strconv_Itoa.f at hp0
  obtain ⟨g, hp1⟩ := ite_some hp0
  cases hp1
  refine (sh_strconv_Itoa a0 g.1 g.2 w (hE.t0.tab hS0)).mono ?_
  rintro e w' ⟨rfl, q, os, rfl⟩
  exact ⟨rfl, hS0.grown⟩
def strconv_FormatInt.f (a0 a1 : Int) : Option ByteArray := if a1 = 10 ∧ -9223372036854775808 ≤ a0 ∧ a0 ≤ 9223372036854775807 then some (itoaB a0) else none
theorem strconv_FormatInt.ok (a0 : Int) (a1 : Int) {w0 : World} {Z : Zm} {fs : List XObj} {w : World} (hS0 : St w0 Z (fs) w) (hE : Env Z) {q0 : ByteArray} (hp0 : strconv_FormatInt.f a0 a1 = some q0) :
    Calls Tryd.prog 29 #[.int .i64 a0, .int .i64 a1] w (fun e w' => e = .returned (.string q0) ∧ St w0 Z (fs) w') := by
  unfold strconv_FormatInt.f at hp0
  obtain ⟨⟨rfl, g1, g2⟩, hp1⟩ := ite_some hp0
  cases hp1
  refine (sh_strconv_FormatInt_10 a0 g1 g2 w (hE.t0.tab hS0)).mono ?_
  rintro e w' ⟨rfl, q, os, rfl⟩
  exact ⟨rfl, hS0.grown⟩
/-- The parts, one behind the other, with something between any two. -/
def joinB (xs : List ByteArray) (sep : ByteArray) : ByteArray := ⟨(Lib.join (xs.map (·.data.toList)) sep.data.toList).toArray⟩
def strings_Join.f (a0 : List ByteArray) (a1 : ByteArray) : Option ByteArray := if a0.length ≤ 140737488355328 ∧ (Lib.join (a0.map (·.data.toList)) a1.data.toList).length ≤ 140737488355328 then some (joinB a0 a1) else none
theorem strings_Join.ok (a0 : List ByteArray) (a1 : ByteArray) (Aa0 : Option Addr) (ca0 : Nat) {w0 : World} {Z : Zm} {fs : List XObj} {w : World} (hS0 : St w0 Z (fs) w) (ha0 : SlZ (flat encS) 1 Z Aa0 ca0 a0) (hE : Env Z) {q0 : ByteArray} (hp0 : strings_Join.f a0 a1 = some q0) :
    Calls Tryd.prog 11 #[.slice Aa0 a0.length ca0, .string a1] w (fun e w' => e = .returned (.string q0) ∧ St w0 Z (fs) w') := by
  unfold strings_Join.f at hp0
  obtain ⟨g, hp1⟩ := ite_some hp0
  cases hp1
  cases hxs : a0 with
  | nil =>
    refine (sh_strings_Join_none Aa0 ca0 a1 w).mono ?_
    rintro e w' ⟨rfl, rfl⟩
    exact ⟨rfl, hS0⟩
  | cons x0 r =>
    rw [← hxs]
    obtain ⟨b, o, cs, hA, h2, h3, h4⟩ := ha0.cells 0 x0 (by rw [hxs]; rfl)
    subst hA
    have hc : ∀ (j : Nat) x, a0[j]? = some x → w.cell? ⟨b, o + j, none⟩ = some (.string x) := by
      intro j x hx
      obtain ⟨b', o', cs', hA', h2', h3', h4'⟩ := ha0.cells j x hx
      cases hA'
      have h5 : cs' = encS x := h2'
      subst h5
      have := hS0.zc _ _ _ (h4' 0 (.string x) rfl)
      simpa using this
    have hlt : b < w.heap.size := cell_lt (hc 0 x0 (by rw [hxs]; rfl))
    refine (sh_strings_Join b o ca0 a0 a1 w hc hlt g.1 ha0.cap g.2).mono ?_
    rintro e w' ⟨rfl, hb⟩
    exact ⟨rfl, hS0.extB hE.nm (FrB.of_below hb)⟩
def strings_IndexByte.f (a0 : ByteArray) (a1 : Int) : Option Int := some (Lib.indexByte a0.data.toList a1.toNat.toUInt8)
theorem strings_IndexByte.ok (a0 : ByteArray) (a1 : Int) {w0 : World} {Z : Zm} {fs : List XObj} {w : World} (hS0 : St w0 Z (fs) w) {q0 : Int} (hp0 : strings_IndexByte.f a0 a1 = some q0) :
    Calls Tryd.prog 14 #[.string a0, .int .u8 a1] w (fun e w' => e = .returned (.int .i64 q0) ∧ St w0 Z (fs) w') := by
  cases hp0
  refine (sh_strings_IndexByte a0 a1 w).mono ?_
  rintro e w' ⟨rfl, rfl⟩
  exact ⟨rfl, hS0⟩
/-- What strconv.Atoi answers, and whether there is no error. -/
def atoiB (l : List UInt8) : Int × Bool := match Lib.atoiAll l with
  | .ok v => (v, true)
  | .«syntax» => (0, false)
  | .range => (Lib.atoiSat l, false)
def strconv_Atoi.f (a0 : ByteArray) : Option (Int × Bool) := if a0.size ≤ 281474976710656 then some (atoiB a0.data.toList) else none
theorem strconv_Atoi.ok (a0 : ByteArray) {w0 : World} {Z : Zm} {fs : List XObj} {w : World} (hS0 : St w0 Z (fs) w) (hE : Env Z) {q0 : Int} {q1 : Bool} (hp0 : strconv_Atoi.f a0 = some (q0, q1)) :
    Calls Tryd.prog 35 #[.string a0] w (fun e w' => ∃ Qv0 : Value, e = .returned (.tuple #[.int .i64 q0, cond q1 .nilIface (.iface 94 Qv0)]) ∧ St w0 Z (fs) w') := by
  unfold strconv_Atoi.f at hp0
  obtain ⟨g, hp1⟩ := ite_some hp0
  have hp2 := Option.some.inj hp1
  unfold atoiB at hp2
  cases h : Lib.atoiAll a0.data.toList with
  | ok v =>
    rw [h] at hp2; cases hp2
    refine (sh_strconv_Atoi_ok a0 (by omega) _ h w).mono ?_
    rintro e w' ⟨rfl, rfl | ⟨t, rfl⟩⟩
    · exact ⟨.nilIface, rfl, hS0⟩
    · exact ⟨.nilIface, rfl, hS0.extB hE.nm (FrB.of_below (Lib.bytesWorld_below _ _ _))⟩
  | «syntax» =>
    rw [h] at hp2; cases hp2
    obtain ⟨t, p, hg⟩ := hE.es
    refine (sh_strconv_Atoi_syntax a0 g h _ w (hg.cell hS0) (.inr ⟨t, p, rfl⟩)).mono ?_
    rintro e w' ⟨N, rfl, _, _, hb⟩
    exact ⟨_, rfl, hS0.extB hE.nm (FrB.of_below hb)⟩
  | range =>
    rw [h] at hp2; cases hp2
    obtain ⟨t, p, hg⟩ := hE.er
    refine (sh_strconv_Atoi_range a0 g h _ w (hg.cell hS0) (.inr ⟨t, p, rfl⟩)).mono ?_
    rintro e w' ⟨N, rfl, _, _, hb⟩
    exact ⟨_, rfl, hS0.extB hE.nm (FrB.of_below hb)⟩
/-- The pieces between the separators. -/
def splitS (s sep : ByteArray) : List ByteArray := Lib.splitB sep 0 (Lib.countB s sep) s
theorem flat_encS : ∀ l : List ByteArray, l.map Value.string = l.flatMap encS
  | [] => rfl
  | x :: l => by rw [List.map_cons, List.flatMap_cons, flat_encS l]; rfl
def strings_Split.f (a0 a1 : ByteArray) : Option (List ByteArray) := if a0.size < 4294967281 ∧ 1 ≤ a1.size then some (splitS a0 a1) else none
theorem strings_Split.ok (a0 a1 : ByteArray) {w0 : World} {Z : Zm} {fs : List XObj} {w : World} (hS0 : St w0 Z (fs) w) (hE : Env Z) {q0 : List ByteArray} (hp0 : strings_Split.f a0 a1 = some q0) :
    Calls Tryd.prog 26 #[.string a0, .string a1] w (fun e w' => ∃ (QA0 : Option Addr) (Qc0 : Nat), e = .returned (.slice QA0 q0.length Qc0) ∧ St w0 Z (xrow QA0 Qc0 9 1 (q0.flatMap encS) :: fs) w') := by
  unfold strings_Split.f at hp0
  obtain ⟨g, hp1⟩ := ite_some hp0
  cases hp1
  obtain ⟨m, hm⟩ := hE.ml
  have hl : (splitS a0 a1).length = Lib.countB a0 a1 + 1 := Lib.splitB_all a1 g.2 0 _ a0 rfl
  have hle := Lib.countB_le a1 g.2 a0.size a0 (Nat.le_refl _)
  refine (sh_strings_Split a0 a1 m w g.1 (hm.cell hS0) g.2).mono ?_
  rintro e w' ⟨rfl, rfl⟩
  have h1 := hS0.newblk (e := 9) (cs := (splitS a0 a1).map Value.string) (new_alloc w _)
  have h2 := (h1.rowOfBlk (c := Lib.countB a0 a1 + 1) (sz := 1) (by rw [List.length_map, hl]; omega) (by omega) (by omega)).eqrow (flat_encS _)
  exact ⟨_, _, by rw [hl], h2⟩
end Go.Proofs.YtlapbgeklhinmaaDoor.K
