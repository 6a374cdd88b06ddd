/- Functions of Go's library, told in the engine's words; what stays true all along (Env): tables, and that draws are not counted. -/
import Derived.Test.YtboejepakdnbgaaGreatDoorNL
import Derived.Test.YtboejepakdnbgaaGreatDoorLH
import Derived.Sort.Grow
import Derived.Lib.LaidTab
import Derived.Lib.AtoiErrMem
import Derived.Shelf.Strings.SlTrimAscii

set_option linter.unusedVariables false
set_option linter.unusedSimpArgs false
set_option maxRecDepth 100000
namespace Go.Proofs.YtboejepakdnbgaaGreatDoor.K
open Go Go.RowKit Go.Sort

def Tz (P : Program) (Z : Zm) (name : String) (k : IntKind) (zs : List Int) : Prop := ∃ g o, P.globalNamed name = some g ∧ Z.blk g o ∧ ∀ w : World, w.heap[g]? = some o → Lib.TabIs P w name k zs
section
variable {P : Program} {Z Z' : Zm} {name : String} {k : IntKind} {zs : List Int} {w0 w : World} {xs : List XObj}
theorem Tz.up (h : Tz P Z name k zs) (hz : Zm.Le Z Z') : Tz P Z' name k zs := by
  obtain ⟨g, o, h1, h2, h3⟩ := h
  exact ⟨g, o, h1, hz.blk _ _ h2, h3⟩
theorem Tz.tab (h : Tz P Z name k zs) (hS : St w0 Z xs w) : Lib.TabIs P w name k zs := by
  obtain ⟨g, o, h1, h2, h3⟩ := h
  exact h3 w (hS.zb g o h2)
theorem Tz.of {W : World} (h : Lib.TabIs P W name k zs) : Tz P (Zold W) name k zs := by
  unfold Lib.TabIs World.var? at h
  cases hg : P.globalNamed name with
  | none => rw [hg] at h; cases h
  | some g =>
    rw [hg] at h
    simp only [Option.bind_some] at h
    cases ho : W.heap[g]? with
    | none => rw [ho] at h; cases h
    | some o =>
      refine ⟨g, o, hg, ho, fun w hw => ?_⟩
      unfold Lib.TabIs World.var?
      rw [hg]
      simp only [Option.bind_some]
      rw [hw, ← ho]; exact h
theorem St.grown {q : Nat} {os : Array Obj} (h : St w0 Z xs w) : St w0 Z xs (grow (w.drewN q) os) := by
  refine h.extD ⟨rfl, rfl, rfl, ?_, fun i hi _ => ?_⟩ (fun _ => ?_)
  · simp [grow, World.drewN]
  · simp only [grow, World.drewN]
    rw [Array.getElem?_append_left hi]
  · simp [grow, World.drewN]
end
def Gc (Z : Zm) (g : Nat) (v : Value) : Prop := ∃ o, Z.blk g o ∧ ∀ w : World, w.heap[g]? = some o → w.cell? ⟨g, 0, none⟩ = some v
theorem Gc.up {Z Z' : Zm} {g : Nat} {v : Value} (h : Gc Z g v) (hz : Zm.Le Z Z') : Gc Z' g v := by
  obtain ⟨o, h1, h2⟩ := h
  exact ⟨o, hz.blk _ _ h1, h2⟩
theorem Gc.cell {Z : Zm} {g : Nat} {v : Value} {w0 w : World} {xs : List XObj} (h : Gc Z g v) (hS : St w0 Z xs w) : w.cell? ⟨g, 0, none⟩ = some v := by
  obtain ⟨o, h1, h2⟩ := h
  exact h2 w (hS.zb g o h1)
theorem Gc.of {W : World} {g : Nat} {v : Value} (h : W.cell? ⟨g, 0, none⟩ = some v) : Gc (Zold W) g v := by
  cases ho : W.heap[g]? with
  | none => rw [World.cell?, ho] at h; cases h
  | some o => exact ⟨o, ho, fun w hw => by rw [World.cell_of_blk (hw.trans ho.symm)]; exact h⟩
structure Env (Z : Zm) : Prop where
  nm : ¬ Z.mono
  t0 : Tz Tryz.prog Z "internal/strconv.uint64pow10" .u64 Lib.pow10Tab
theorem Env.up {Z Z' : Zm} (h : Env Z) (hz : Zm.Le Z Z') : Env Z' := ⟨fun m => h.nm (hz.mono.1 m), h.t0.up hz⟩

def itoaB (n : Int) : ByteArray := ⟨(Lib.itoa n).toArray⟩
def strconv_Itoa.f (a0 : Int) : Option ByteArray := if -9223372036854775808 ≤ a0 ∧ a0 ≤ 9223372036854775807 then some (itoaB a0) else none
theorem strconv_Itoa.ok (a0 : Int) {w0 : World} {Z : Zm} {fs : List XObj} {w : World} (hS0 : St w0 Z (fs) w) (hE : Env Z) {q0 : ByteArray} (hp0 : strconv_Itoa.f a0 = some q0) :
    Calls Tryz.prog 86 #[.int .i64 a0] w (fun e w' => e = .returned (.string q0) ∧ St w0 Z (fs) w') := by
  unfold strconv_Itoa.f at hp0
  obtain ⟨g, hp1⟩ := ite_some hp0
  cases hp1
  refine (sh_strconv_Itoa a0 g.1 g.2 w (hE.t0.tab hS0)).mono ?_
  rintro e w' ⟨rfl, q, os, rfl⟩
  exact ⟨rfl, hS0.grown⟩
def strconv_FormatInt.f (a0 a1 : Int) : Option ByteArray := if a1 = 10 ∧ -9223372036854775808 ≤ a0 ∧ a0 ≤ 9223372036854775807 then some (itoaB a0) else none
theorem strconv_FormatInt.ok (a0 : Int) (a1 : Int) {w0 : World} {Z : Zm} {fs : List XObj} {w : World} (hS0 : St w0 Z (fs) w) (hE : Env Z) {q0 : ByteArray} (hp0 : strconv_FormatInt.f a0 a1 = some q0) :
    Calls Tryz.prog 87 #[.int .i64 a0, .int .i64 a1] w (fun e w' => e = .returned (.string q0) ∧ St w0 Z (fs) w') := by
  unfold strconv_FormatInt.f at hp0
  obtain ⟨⟨rfl, g1, g2⟩, hp1⟩ := ite_some hp0
  cases hp1
  refine (sh_strconv_FormatInt_10 a0 g1 g2 w (hE.t0.tab hS0)).mono ?_
  rintro e w' ⟨rfl, q, os, rfl⟩
  exact ⟨rfl, hS0.grown⟩
def strings_Compare.f (a0 a1 : ByteArray) : Option Int := some (Lib.compareBytes a0.data.toList a1.data.toList)
theorem strings_Compare.ok (a0 : ByteArray) (a1 : ByteArray) {w0 : World} {Z : Zm} {fs : List XObj} {w : World} (hS0 : St w0 Z (fs) w) {q0 : Int} (hp0 : strings_Compare.f a0 a1 = some q0) :
    Calls Tryz.prog 65 #[.string a0, .string a1] w (fun e w' => e = .returned (.int .i64 q0) ∧ St w0 Z (fs) w') := by
  cases hp0
  refine (sh_strings_Compare a0 a1 w).mono ?_
  rintro e w' ⟨rfl, rfl⟩
  exact ⟨rfl, hS0⟩
def strings_LastIndexByte.f (a0 : ByteArray) (a1 : Int) : Option Int := if a0.size < 4611686018427387904 then some (Lib.lastIndexByte a0 a1) else none
theorem strings_LastIndexByte.ok (a0 : ByteArray) (a1 : Int) {w0 : World} {Z : Zm} {fs : List XObj} {w : World} (hS0 : St w0 Z (fs) w) {q0 : Int} (hp0 : strings_LastIndexByte.f a0 a1 = some q0) :
    Calls Tryz.prog 44 #[.string a0, .int .u8 a1] w (fun e w' => e = .returned (.int .i64 q0) ∧ St w0 Z (fs) w') := by
  unfold strings_LastIndexByte.f at hp0
  obtain ⟨g, hp1⟩ := ite_some hp0
  cases hp1
  refine (sh_strings_LastIndexByte a0 a1 g w).mono ?_
  rintro e w' ⟨rfl, rfl⟩
  exact ⟨rfl, hS0⟩
def strings_IndexByte.f (a0 : ByteArray) (a1 : Int) : Option Int := some (Lib.indexByte a0.data.toList a1.toNat.toUInt8)
theorem strings_IndexByte.ok (a0 : ByteArray) (a1 : Int) {w0 : World} {Z : Zm} {fs : List XObj} {w : World} (hS0 : St w0 Z (fs) w) {q0 : Int} (hp0 : strings_IndexByte.f a0 a1 = some q0) :
    Calls Tryz.prog 131 #[.string a0, .int .u8 a1] w (fun e w' => e = .returned (.int .i64 q0) ∧ St w0 Z (fs) w') := by
  cases hp0
  refine (sh_strings_IndexByte a0 a1 w).mono ?_
  rintro e w' ⟨rfl, rfl⟩
  exact ⟨rfl, hS0⟩
def strings_HasPrefix.f (a0 a1 : ByteArray) : Option Bool := some (Lib.hasPrefix a0.data.toList a1.data.toList)
theorem strings_HasPrefix.ok (a0 : ByteArray) (a1 : ByteArray) {w0 : World} {Z : Zm} {fs : List XObj} {w : World} (hS0 : St w0 Z (fs) w) {q0 : Bool} (hp0 : strings_HasPrefix.f a0 a1 = some q0) :
    Calls Tryz.prog 132 #[.string a0, .string a1] w (fun e w' => e = .returned (.bool q0) ∧ St w0 Z (fs) w') := by
  cases hp0
  refine (sh_strings_HasPrefix a0 a1 w).mono ?_
  rintro e w' ⟨rfl, rfl⟩
  exact ⟨rfl, hS0⟩
def strings_CutPrefix.f (a0 a1 : ByteArray) : Option (ByteArray × Bool) := some (⟨(Lib.trimPrefix a0.data.toList a1.data.toList).toArray⟩, Lib.hasPrefix a0.data.toList a1.data.toList)
theorem strings_CutPrefix.ok (a0 : ByteArray) (a1 : ByteArray) {w0 : World} {Z : Zm} {fs : List XObj} {w : World} (hS0 : St w0 Z (fs) w) {q0 : ByteArray} {q1 : Bool} (hp0 : strings_CutPrefix.f a0 a1 = some (q0, q1)) :
    Calls Tryz.prog 160 #[.string a0, .string a1] w (fun e w' => e = .returned (.tuple #[.string q0, .bool q1]) ∧ St w0 Z (fs) w') := by
  cases hp0
  refine (sh_strings_CutPrefix a0 a1 w).mono ?_
  rintro e w' ⟨rfl, rfl⟩
  exact ⟨rfl, hS0⟩
def strings_Count.f (a0 a1 : ByteArray) : Option Int := match a1.data.toList with
  | [c] => some (Lib.countByte a0.data.toList c)
  | _ => none
theorem strings_Count.ok (a0 : ByteArray) (a1 : ByteArray) {w0 : World} {Z : Zm} {fs : List XObj} {w : World} (hS0 : St w0 Z (fs) w) {q0 : Int} (hp0 : strings_Count.f a0 a1 = some q0) :
    Calls Tryz.prog 43 #[.string a0, .string a1] w (fun e w' => e = .returned (.int .i64 q0) ∧ St w0 Z (fs) w') := by
  obtain ⟨⟨l⟩⟩ := a1
  unfold strings_Count.f at hp0
  match l, hp0 with
  | [c], hp0 =>
    cases hp0
    refine (sh_strings_Count_one a0 c w).mono ?_
    rintro e w' ⟨rfl, rfl⟩
    exact ⟨rfl, hS0⟩
def bits_Mul64.f (a0 a1 : Int) : Option (Int × Int) := if (0 ≤ a0 ∧ a0 < 18446744073709551616) ∧ 0 ≤ a1 ∧ a1 < 18446744073709551616 then some (a0 * a1 / 18446744073709551616, a0 * a1 % 18446744073709551616) else none
theorem bits_Mul64.ok (a0 a1 : Int) {w0 : World} {Z : Zm} {fs : List XObj} {w : World} (hS0 : St w0 Z (fs) w) {q0 q1 : Int} (hp0 : bits_Mul64.f a0 a1 = some (q0, q1)) :
    Calls Tryz.prog 162 #[.int .u64 a0, .int .u64 a1] w (fun e w' => e = .returned (.tuple #[.int .u64 q0, .int .u64 q1]) ∧ St w0 Z (fs) w') := by
  unfold bits_Mul64.f at hp0
  obtain ⟨⟨g1, g2⟩, hp1⟩ := ite_some hp0
  cases hp1
  obtain ⟨x, rfl⟩ := Int.eq_ofNat_of_zero_le g1.1
  obtain ⟨y, rfl⟩ := Int.eq_ofNat_of_zero_le g2.1
  refine (sh_bits_Mul64 x y (by omega) (by omega) w).mono ?_
  rintro e w' ⟨rfl, rfl⟩
  exact ⟨rfl, hS0⟩
def strconv_Atoi.f (a0 : ByteArray) : Option Int := if a0.size ≤ 18 then Lib.atoi a0.data.toList else none
theorem strconv_Atoi.ok (a0 : ByteArray) {w0 : World} {Z : Zm} {fs : List XObj} {w : World} (hS0 : St w0 Z (fs) w) (hE : Env Z) {q0 : Int} (hp0 : strconv_Atoi.f a0 = some q0) :
    Calls Tryz.prog 187 #[.string a0] w (fun e w' => e = .returned (.tuple #[.int .i64 q0, .nilIface]) ∧ St w0 Z (fs) w') := by
  unfold strconv_Atoi.f at hp0
  obtain ⟨g, hp1⟩ := ite_some hp0
  refine (sh_strconv_Atoi a0 q0 g hp1 w).mono ?_
  rintro e w' ⟨rfl, t, rfl⟩
  exact ⟨rfl, hS0.extB hE.nm (FrB.of_below (Lib.bytesWorld_below _ _ _))⟩
def strings_Trim.f (a0 a1 : ByteArray) : Option ByteArray := if a0.size ≤ 9223372036854775807 ∧ a1.size < 4294967281 ∧ a1.data.toList.all (fun b => decide (b.toNat < 128)) = true then some ⟨(Lib.trimS a0.data.toList a1.data.toList).toArray⟩ else none
theorem strings_Trim.ok (a0 : ByteArray) (a1 : ByteArray) {w0 : World} {Z : Zm} {fs : List XObj} {w : World} (hS0 : St w0 Z (fs) w) (hE : Env Z) {q0 : ByteArray} (hp0 : strings_Trim.f a0 a1 = some q0) :
    Calls Tryz.prog 186 #[.string a0, .string a1] w (fun e w' => e = .returned (.string q0) ∧ St w0 Z (fs) w') := by
  unfold strings_Trim.f at hp0
  obtain ⟨g, hp1⟩ := ite_some hp0
  cases hp1
  refine (Any.strings_Trim_laid sh_lays160 (by kernel_rfl) a0 a1 w g.1 g.2.1 (ascii_of_all g.2.2)).mono ?_
  rintro e w' ⟨rfl, hb⟩
  exact ⟨rfl, hS0.extB hE.nm (FrB.of_below hb)⟩
end Go.Proofs.YtboejepakdnbgaaGreatDoor.K
