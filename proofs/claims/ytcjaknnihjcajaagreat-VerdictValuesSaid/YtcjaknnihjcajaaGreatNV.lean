/- Functions of Go's library, told in the engine's words; what stays true all along (Env): tables, and that draws are not counted. -/
import Derived.Test.YtcjaknnihjcajaaGreatNL
import Derived.Test.YtcjaknnihjcajaaGreatLH
import Derived.Sort.Grow
import Derived.Lib.LaidTab
set_option linter.unusedVariables false
set_option linter.unusedSimpArgs false
set_option maxRecDepth 100000
namespace Go.Proofs.YtcjaknnihjcajaaGreat.K
open Go Go.RowKit Go.Sort
def Tz (P : Program) (Z : Zm) (name : String) (k : IntKind) (zs : List Int) : Prop := ∃ g o, P.globalNamed name = some g ∧ Z.blk g o ∧ ∀ w : World, w.heap[g]? = some o → Lib.TabIs P w name k zs
section
variable {P : Program} {Z Z' : Zm} {name : String} {k : IntKind} {zs : List Int} {w0 w : World} {xs : List XObj}
theorem Tz.up (h : Tz P Z name k zs) (hz : Zm.Le Z Z') : Tz P Z' name k zs := by
 obtain ⟨g, o, h1, h2, h3⟩ := h
 exact ⟨g, o, h1, hz.blk _ _ h2, h3⟩
theorem Tz.of {W : World} (h : Lib.TabIs P W name k zs) : Tz P (Zold W) name k zs := by
  unfold Lib.TabIs World.var? at h
  cases hg : P.globalNamed name with
  | none => rw [hg] at h; cases h
  | some g =>
    rw [hg] at h
    simp only [Option.bind_some] at h
    cases ho : W.heap[g]? with
    | none => rw [ho] at h; cases h
    | some o =>
      refine ⟨g, o, hg, ho, fun w hw => ?_⟩
      unfold Lib.TabIs World.var?
      rw [hg]
      simp only [Option.bind_some]
      rw [hw, ← ho]; exact h
end
def Gc (Z : Zm) (g : Nat) (v : Value) : Prop := ∃ o, Z.blk g o ∧ ∀ w : World, w.heap[g]? = some o → w.cell? ⟨g, 0, none⟩ = some v
theorem Gc.up {Z Z' : Zm} {g : Nat} {v : Value} (h : Gc Z g v) (hz : Zm.Le Z Z') : Gc Z' g v := by
 obtain ⟨o, h1, h2⟩ := h
 exact ⟨o, hz.blk _ _ h1, h2⟩
theorem Gc.cell {Z : Zm} {g : Nat} {v : Value} {w0 w : World} {xs : List XObj} (h : Gc Z g v) (hS : St w0 Z xs w) : w.cell? ⟨g, 0, none⟩ = some v := by
 obtain ⟨o, h1, h2⟩ := h
 exact h2 w (hS.zb g o h1)
theorem Gc.of {W : World} {g : Nat} {v : Value} (h : W.cell? ⟨g, 0, none⟩ = some v) : Gc (Zold W) g v := by
 cases ho : W.heap[g]? with
 | none => rw [World.cell?, ho] at h; cases h
 | some o => exact ⟨o, ho, fun w hw => by rw [World.cell_of_blk (hw.trans ho.symm)]; exact h⟩
structure Env (Z : Zm) : Prop where
 nm : ¬ Z.mono
theorem Env.up {Z Z' : Zm} (h : Env Z) (hz : Zm.Le Z Z') : Env Z' := ⟨fun m => h.nm (hz.mono.1 m)⟩
def strings_Compare.f (a0 a1 : ByteArray) : Option Int := some (Lib.compareBytes a0.data.toList a1.data.toList)
theorem strings_Compare.ok (a0 : ByteArray) (a1 : ByteArray) {w0 : World} {Z : Zm} {fs : List XObj} {w : World} (hS0 : St w0 Z (fs) w) {q0 : Int} (hp0 : strings_Compare.f a0 a1 = some q0) :
  Calls Tryz.prog 91 #[.string a0, .string a1] w (fun e w' => e = .returned (.int .i64 q0) ∧ St w0 Z (fs) w') := by
 cases hp0
 refine (sh_strings_Compare a0 a1 w).mono ?_
 rintro e w' ⟨rfl, rfl⟩
 exact ⟨rfl, hS0⟩
def strings_IndexByte.f (a0 : ByteArray) (a1 : Int) : Option Int := some (Lib.indexByte a0.data.toList a1.toNat.toUInt8)
theorem strings_IndexByte.ok (a0 : ByteArray) (a1 : Int) {w0 : World} {Z : Zm} {fs : List XObj} {w : World} (hS0 : St w0 Z (fs) w) {q0 : Int} (hp0 : strings_IndexByte.f a0 a1 = some q0) :
  Calls Tryz.prog 160 #[.string a0, .int .u8 a1] w (fun e w' => e = .returned (.int .i64 q0) ∧ St w0 Z (fs) w') := by
 cases hp0
 refine (sh_strings_IndexByte a0 a1 w).mono ?_
 rintro e w' ⟨rfl, rfl⟩
 exact ⟨rfl, hS0⟩
end Go.Proofs.YtcjaknnihjcajaaGreat.K
