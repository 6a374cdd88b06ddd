/- Functions of Go's library, told in the engine's words; what stays true all along (Env): tables, and that draws are not counted. -/
import Derived.Test.YtmgjnplkpmcleaaDoorNL
import Derived.Test.YtmgjnplkpmcleaaDoorLH
import Derived.Sort.Grow
import Derived.Lib.LaidTab
set_option linter.unusedVariables false
set_option linter.unusedSimpArgs false
set_option maxRecDepth 100000
namespace Go.Proofs.YtmgjnplkpmcleaaDoor.K
open Go Go.RowKit Go.Sort

/-- A table that stays. -/
def Tz (P : Program) (Z : Zm) (name : String) (k : IntKind) (zs : List Int) : Prop := ∃ g o, P.globalNamed name = some g ∧ Z.blk g o ∧ ∀ w : World, w.heap[g]? = some o → Lib.TabIs P w name k zs
section
variable {P : Program} {Z Z' : Zm} {name : String} {k : IntKind} {zs : List Int} {w0 w : World} {xs : List XObj}
theorem Tz.up (h : Tz P Z name k zs) (hz : Zm.Le Z Z') : Tz P Z' name k zs := by
  obtain ⟨g, o, h1, h2, h3⟩ := h
  exact ⟨g, o, h1, hz.blk _ _ h2, h3⟩
theorem Tz.tab (h : Tz P Z name k zs) (hS : St w0 Z xs w) : Lib.TabIs P w name k zs := by
  obtain ⟨g, o, h1, h2, h3⟩ := h
  exact h3 w (hS.zb g o h2)
theorem Tz.of {W : World} (h : Lib.TabIs P W name k zs) : Tz P (Zold W) name k zs := by
  unfold Lib.TabIs World.var? at h
  cases hg : P.globalNamed name with
  | none => rw [hg] at h; cases h
  | some g =>
    rw [hg] at h
    simp only [Option.bind_some] at h
    cases ho : W.heap[g]? with
    | none => rw [ho] at h; cases h
    | some o =>
      refine ⟨g, o, hg, ho, fun w hw => ?_⟩
      unfold Lib.TabIs World.var?
      rw [hg]
      simp only [Option.bind_some]
      rw [hw, ← ho]; exact h
theorem St.grown {q : Nat} {os : Array Obj} (h : St w0 Z xs w) : St w0 Z xs (grow (w.drewN q) os) := by
  refine h.extD ⟨rfl, rfl, rfl, ?_, fun i hi _ => ?_⟩ (fun _ => ?_)
  · simp [grow, World.drewN]
  · simp only [grow, World.drewN]
    rw [Array.getElem?_append_left hi]
  · simp [grow, World.drewN]
end
structure Env (Z : Zm) : Prop where
  nm : ¬ Z.mono
  t0 : Tz Tryd.prog Z "internal/strconv.uint64pow10" .u64 Lib.pow10Tab
theorem Env.up {Z Z' : Zm} (h : Env Z) (hz : Zm.Le Z Z') : Env Z' := ⟨fun m => h.nm (hz.mono.1 m), h.t0.up hz⟩

/-- An integer's decimal numeral. -/
def itoaB (n : Int) : ByteArray := ⟨(Lib.itoa n).toArray⟩
def strconv_Itoa.f (a0 : Int) : Option ByteArray := if -9223372036854775808 ≤ a0 ∧ a0 ≤ 9223372036854775807 then some (itoaB a0) else none
theorem strconv_Itoa.ok (a0 : Int) {w0 : World} {Z : Zm} {fs : List XObj} {w : World} (hS0 : St w0 Z (fs) w) (hE : Env Z) {q0 : ByteArray} (hp0 : strconv_Itoa.f a0 = some q0) :
    Calls Tryd.prog 12 #[.int .i64 a0] w (fun e w' => e = .returned (.string q0) ∧ St w0 Z (fs) w') := by
  unfold strconv_Itoa.f at hp0
  obtain ⟨g, hp1⟩ := ite_some hp0
  cases hp1
  refine (sh_strconv_Itoa a0 g.1 g.2 w (hE.t0.tab hS0)).mono ?_
  rintro e w' ⟨rfl, q, os, rfl⟩
  exact ⟨rfl, hS0.grown⟩
def strconv_FormatInt.f (a0 a1 : Int) : Option ByteArray := if a1 = 10 ∧ -9223372036854775808 ≤ a0 ∧ a0 ≤ 9223372036854775807 then some (itoaB a0) else none
theorem strconv_FormatInt.ok (a0 : Int) (a1 : Int) {w0 : World} {Z : Zm} {fs : List XObj} {w : World} (hS0 : St w0 Z (fs) w) (hE : Env Z) {q0 : ByteArray} (hp0 : strconv_FormatInt.f a0 a1 = some q0) :
    Calls Tryd.prog 27 #[.int .i64 a0, .int .i64 a1] w (fun e w' => e = .returned (.string q0) ∧ St w0 Z (fs) w') := by
  unfold strconv_FormatInt.f at hp0
  obtain ⟨⟨rfl, g1, g2⟩, hp1⟩ := ite_some hp0
  cases hp1
  refine (sh_strconv_FormatInt_10 a0 g1 g2 w (hE.t0.tab hS0)).mono ?_
  rintro e w' ⟨rfl, q, os, rfl⟩
  exact ⟨rfl, hS0.grown⟩
def strings_Contains.f (a0 a1 : ByteArray) : Option Bool := match a1.data.toList with
  | [c] => some (decide (0 ≤ Lib.indexByte a0.data.toList c))
  | _ => none
theorem strings_Contains.ok (a0 : ByteArray) (a1 : ByteArray) {w0 : World} {Z : Zm} {fs : List XObj} {w : World} (hS0 : St w0 Z (fs) w) {q0 : Bool} (hp0 : strings_Contains.f a0 a1 = some q0) :
    Calls Tryd.prog 18 #[.string a0, .string a1] w (fun e w' => e = .returned (.bool q0) ∧ St w0 Z (fs) w') := by
  obtain ⟨⟨l⟩⟩ := a1
  unfold strings_Contains.f at hp0
  match l, hp0 with
  | [c], hp0 =>
    cases hp0
    refine (sh_strings_Contains_one a0 c w).mono ?_
    rintro e w' ⟨rfl, rfl⟩
    exact ⟨rfl, hS0⟩
def strings_LastIndexByte.f (a0 : ByteArray) (a1 : Int) : Option Int := if a0.size < 4611686018427387904 then some (Lib.lastIndexByte a0 a1) else none
theorem strings_LastIndexByte.ok (a0 : ByteArray) (a1 : Int) {w0 : World} {Z : Zm} {fs : List XObj} {w : World} (hS0 : St w0 Z (fs) w) {q0 : Int} (hp0 : strings_LastIndexByte.f a0 a1 = some q0) :
    Calls Tryd.prog 28 #[.string a0, .int .u8 a1] w (fun e w' => e = .returned (.int .i64 q0) ∧ St w0 Z (fs) w') := by
  unfold strings_LastIndexByte.f at hp0
  obtain ⟨g, hp1⟩ := ite_some hp0
  cases hp1
  refine (sh_strings_LastIndexByte a0 a1 g w).mono ?_
  rintro e w' ⟨rfl, rfl⟩
  exact ⟨rfl, hS0⟩
end Go.Proofs.YtmgjnplkpmcleaaDoor.K
