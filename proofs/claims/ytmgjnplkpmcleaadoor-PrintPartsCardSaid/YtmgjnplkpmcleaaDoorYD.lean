/- Each instruction's text; the law. -/
import Derived.Test.YtmgjnplkpmcleaaDoorYC
import Derived.Test.YtmgjnplkpmcleaaDoorO
set_option linter.unusedVariables false
set_option linter.unusedSimpArgs false
set_option maxRecDepth 100000
namespace Go.Proofs.YtmgjnplkpmcleaaDoor.K
open Go

theorem rz (c : Int) : (runeB c).size = 1 := rfl
theorem nb (s : ByteArray) : noB ++ s = s := ByteArray.empty_append
theorem okI_sizes {a : api_Instr} {r s l v : Bool} (h : okI a r s l v = true) : a.Reg.size ≤ 64 ∧ a.Src.size ≤ 64 ∧ a.Loc.size ≤ 64 := by
  unfold okI at h
  simp only [Bool.and_eq_true] at h
  exact ⟨okF_size h.1.1.1, okF_size h.1.1.2, okF_size h.1.2⟩
def Both (a : api_Instr) : Prop := ∃ t e, print_Instr.f a = some (t, e) ∧ weirref08_Instr.f a = some (t, e)
theorem op1 {a : api_Instr} (ho : a.Op = 1) (hv : -9223372036854775808 ≤ a.Imm ∧ a.Imm ≤ 9223372036854775807) : Both a := by
  have p1 : print_shape.f a.Op = some (⟨#[77, 79, 86, 32, 82, 44, 36, 86]⟩ : ByteArray) := by rw [ho]; rfl
  have p2 : print_cutLast.f (⟨#[77, 79, 86, 32, 82, 44, 36, 86]⟩ : ByteArray) = some ((⟨#[77, 79, 86, 32]⟩ : ByteArray), (⟨#[82, 44, 36, 86]⟩ : ByteArray), true) := by kernel_rfl
  have hR : strings_Contains.f (⟨#[82, 44, 36, 86]⟩ : ByteArray) (⟨#[82]⟩ : ByteArray) = some true := by kernel_rfl
  have hS : strings_Contains.f (⟨#[82, 44, 36, 86]⟩ : ByteArray) (⟨#[83]⟩ : ByteArray) = some false := by kernel_rfl
  have hL : strings_Contains.f (⟨#[82, 44, 36, 86]⟩ : ByteArray) (⟨#[76]⟩ : ByteArray) = some false := by kernel_rfl
  have hV : strings_Contains.f (⟨#[82, 44, 36, 86]⟩ : ByteArray) (⟨#[86]⟩ : ByteArray) = some true := by kernel_rfl
  have P := instr_p p1 (by decide) p2 hR hS hL hV
  have hF : weirref08_Fields.f a.Op = some (vset (vset (vset (vset (Vector.replicate 4 false) 0 true) 1 false) 2 false) 3 true, true) := by rw [ho]; rfl
  have D := instr_d hF (r := true) (s := false) (l := false) (v := true) (by kernel_rfl) (by kernel_rfl) (by kernel_rfl) (by kernel_rfl)
  unfold Both weirref08_Instr.f
  rw [P, D]
  simp only [Option.bind_eq_bind, Option.bind_some]
  cases hk : okI a true false false true
  · exact ⟨_, _, rfl, rfl⟩
  obtain ⟨z1, z2, z3⟩ := okI_sizes hk
  have z4 := itoa_size hv
  have l0 : (⟨#[77, 79, 86, 32]⟩ : ByteArray).size = 4 := rfl
  have l1 : (⟨#[36]⟩ : ByteArray).size = 1 := rfl
  have l2 : (⟨#[91]⟩ : ByteArray).size = 1 := rfl
  have l3 : (⟨#[93]⟩ : ByteArray).size = 1 := rfl
  have l4 : (⟨#[44]⟩ : ByteArray).size = 1 := rfl
  simp only [if_true, Bool.not_true, Bool.false_eq_true, if_false, text_d hv, Option.bind_some]
  rw [wr (s := noB) (t := (⟨#[77, 79, 86, 32]⟩ : ByteArray)) (by rw [show noB.size = 0 from rfl, l0]; omega), nb]
  simp only [Option.bind_some]
  rw [stepR (n := 0) (by decide) (by kernel_rfl) (by kernel_rfl) (by simp only [sz, rz, l0]; omega)]
  rw [stepC (n := 1) 44 (by decide) (by kernel_rfl) (by kernel_rfl) (by decide) (by decide) (by simp only [sz, rz, l0]; omega)]
  rw [stepC (n := 2) 36 (by decide) (by kernel_rfl) (by kernel_rfl) (by decide) (by decide) (by simp only [sz, rz, l0]; omega)]
  rw [stepV (n := 3) (by decide) (by kernel_rfl) (by kernel_rfl) hv (by simp only [sz, rz, l0]; omega)]
  rw [stepE (n := 4) (by rfl)]
  simp only [Option.bind_some, bd_string.f]
  simp only [sz, l0, l1, l2, l3, l4]
  rw [if_pos (by omega), if_pos (by omega), if_pos (by omega), if_pos (by rw [ho]; decide), if_pos (by omega), if_pos (by omega), if_pos (by omega)]
  exact ⟨_, _, rfl, by simp only [ByteArray.append_assoc, show runeB 44 = (⟨#[44]⟩ : ByteArray) from rfl, show runeB 36 = (⟨#[36]⟩ : ByteArray) from rfl]⟩
theorem op2 {a : api_Instr} (ho : a.Op = 2) (hv : -9223372036854775808 ≤ a.Imm ∧ a.Imm ≤ 9223372036854775807) : Both a := by
  have p1 : print_shape.f a.Op = some (⟨#[77, 79, 86, 32, 82, 44, 83]⟩ : ByteArray) := by rw [ho]; rfl
  have p2 : print_cutLast.f (⟨#[77, 79, 86, 32, 82, 44, 83]⟩ : ByteArray) = some ((⟨#[77, 79, 86, 32]⟩ : ByteArray), (⟨#[82, 44, 83]⟩ : ByteArray), true) := by kernel_rfl
  have hR : strings_Contains.f (⟨#[82, 44, 83]⟩ : ByteArray) (⟨#[82]⟩ : ByteArray) = some true := by kernel_rfl
  have hS : strings_Contains.f (⟨#[82, 44, 83]⟩ : ByteArray) (⟨#[83]⟩ : ByteArray) = some true := by kernel_rfl
  have hL : strings_Contains.f (⟨#[82, 44, 83]⟩ : ByteArray) (⟨#[76]⟩ : ByteArray) = some false := by kernel_rfl
  have hV : strings_Contains.f (⟨#[82, 44, 83]⟩ : ByteArray) (⟨#[86]⟩ : ByteArray) = some false := by kernel_rfl
  have P := instr_p p1 (by decide) p2 hR hS hL hV
  have hF : weirref08_Fields.f a.Op = some (vset (vset (vset (vset (Vector.replicate 4 false) 0 true) 1 true) 2 false) 3 false, true) := by rw [ho]; rfl
  have D := instr_d hF (r := true) (s := true) (l := false) (v := false) (by kernel_rfl) (by kernel_rfl) (by kernel_rfl) (by kernel_rfl)
  unfold Both weirref08_Instr.f
  rw [P, D]
  simp only [Option.bind_eq_bind, Option.bind_some]
  cases hk : okI a true true false false
  · exact ⟨_, _, rfl, rfl⟩
  obtain ⟨z1, z2, z3⟩ := okI_sizes hk
  have z4 := itoa_size hv
  have l0 : (⟨#[77, 79, 86, 32]⟩ : ByteArray).size = 4 := rfl
  have l1 : (⟨#[36]⟩ : ByteArray).size = 1 := rfl
  have l2 : (⟨#[91]⟩ : ByteArray).size = 1 := rfl
  have l3 : (⟨#[93]⟩ : ByteArray).size = 1 := rfl
  have l4 : (⟨#[44]⟩ : ByteArray).size = 1 := rfl
  simp only [if_true, Bool.not_true, Bool.false_eq_true, if_false, text_d hv, Option.bind_some]
  rw [wr (s := noB) (t := (⟨#[77, 79, 86, 32]⟩ : ByteArray)) (by rw [show noB.size = 0 from rfl, l0]; omega), nb]
  simp only [Option.bind_some]
  rw [stepR (n := 0) (by decide) (by kernel_rfl) (by kernel_rfl) (by simp only [sz, rz, l0]; omega)]
  rw [stepC (n := 1) 44 (by decide) (by kernel_rfl) (by kernel_rfl) (by decide) (by decide) (by simp only [sz, rz, l0]; omega)]
  rw [stepS (n := 2) (by decide) (by kernel_rfl) (by kernel_rfl) (by simp only [sz, rz, l0]; omega)]
  rw [stepE (n := 3) (by rfl)]
  simp only [Option.bind_some, bd_string.f]
  simp only [sz, l0, l1, l2, l3, l4]
  rw [if_pos (by omega), if_pos (by omega), if_pos (by omega), if_neg (by rw [ho]; decide), if_pos (by rw [ho]; decide), if_pos (by omega), if_pos (by omega), if_pos (by omega)]
  exact ⟨_, _, rfl, by simp only [ByteArray.append_assoc, show runeB 44 = (⟨#[44]⟩ : ByteArray) from rfl]⟩
theorem op3 {a : api_Instr} (ho : a.Op = 3) (hv : -9223372036854775808 ≤ a.Imm ∧ a.Imm ≤ 9223372036854775807) : Both a := by
  have p1 : print_shape.f a.Op = some (⟨#[77, 79, 86, 32, 82, 44, 91, 76, 93]⟩ : ByteArray) := by rw [ho]; rfl
  have p2 : print_cutLast.f (⟨#[77, 79, 86, 32, 82, 44, 91, 76, 93]⟩ : ByteArray) = some ((⟨#[77, 79, 86, 32]⟩ : ByteArray), (⟨#[82, 44, 91, 76, 93]⟩ : ByteArray), true) := by kernel_rfl
  have hR : strings_Contains.f (⟨#[82, 44, 91, 76, 93]⟩ : ByteArray) (⟨#[82]⟩ : ByteArray) = some true := by kernel_rfl
  have hS : strings_Contains.f (⟨#[82, 44, 91, 76, 93]⟩ : ByteArray) (⟨#[83]⟩ : ByteArray) = some false := by kernel_rfl
  have hL : strings_Contains.f (⟨#[82, 44, 91, 76, 93]⟩ : ByteArray) (⟨#[76]⟩ : ByteArray) = some true := by kernel_rfl
  have hV : strings_Contains.f (⟨#[82, 44, 91, 76, 93]⟩ : ByteArray) (⟨#[86]⟩ : ByteArray) = some false := by kernel_rfl
  have P := instr_p p1 (by decide) p2 hR hS hL hV
  have hF : weirref08_Fields.f a.Op = some (vset (vset (vset (vset (Vector.replicate 4 false) 0 true) 1 false) 2 true) 3 false, true) := by rw [ho]; rfl
  have D := instr_d hF (r := true) (s := false) (l := true) (v := false) (by kernel_rfl) (by kernel_rfl) (by kernel_rfl) (by kernel_rfl)
  unfold Both weirref08_Instr.f
  rw [P, D]
  simp only [Option.bind_eq_bind, Option.bind_some]
  cases hk : okI a true false true false
  · exact ⟨_, _, rfl, rfl⟩
  obtain ⟨z1, z2, z3⟩ := okI_sizes hk
  have z4 := itoa_size hv
  have l0 : (⟨#[77, 79, 86, 32]⟩ : ByteArray).size = 4 := rfl
  have l1 : (⟨#[36]⟩ : ByteArray).size = 1 := rfl
  have l2 : (⟨#[91]⟩ : ByteArray).size = 1 := rfl
  have l3 : (⟨#[93]⟩ : ByteArray).size = 1 := rfl
  have l4 : (⟨#[44]⟩ : ByteArray).size = 1 := rfl
  simp only [if_true, Bool.not_true, Bool.false_eq_true, if_false, text_d hv, Option.bind_some]
  rw [wr (s := noB) (t := (⟨#[77, 79, 86, 32]⟩ : ByteArray)) (by rw [show noB.size = 0 from rfl, l0]; omega), nb]
  simp only [Option.bind_some]
  rw [stepR (n := 0) (by decide) (by kernel_rfl) (by kernel_rfl) (by simp only [sz, rz, l0]; omega)]
  rw [stepC (n := 1) 44 (by decide) (by kernel_rfl) (by kernel_rfl) (by decide) (by decide) (by simp only [sz, rz, l0]; omega)]
  rw [stepC (n := 2) 91 (by decide) (by kernel_rfl) (by kernel_rfl) (by decide) (by decide) (by simp only [sz, rz, l0]; omega)]
  rw [stepL (n := 3) (by decide) (by kernel_rfl) (by kernel_rfl) (by simp only [sz, rz, l0]; omega)]
  rw [stepC (n := 4) 93 (by decide) (by kernel_rfl) (by kernel_rfl) (by decide) (by decide) (by simp only [sz, rz, l0]; omega)]
  rw [stepE (n := 5) (by rfl)]
  simp only [Option.bind_some, bd_string.f]
  simp only [sz, l0, l1, l2, l3, l4]
  rw [if_pos (by omega), if_pos (by omega), if_pos (by omega), if_neg (by rw [ho]; decide), if_neg (by rw [ho]; decide), if_pos (by rw [ho]; decide), if_pos (by omega), if_pos (by omega), if_pos (by omega)]
  exact ⟨_, _, rfl, by simp only [ByteArray.append_assoc, show runeB 44 = (⟨#[44]⟩ : ByteArray) from rfl, show runeB 91 = (⟨#[91]⟩ : ByteArray) from rfl, show runeB 93 = (⟨#[93]⟩ : ByteArray) from rfl]⟩
theorem op4 {a : api_Instr} (ho : a.Op = 4) (hv : -9223372036854775808 ≤ a.Imm ∧ a.Imm ≤ 9223372036854775807) : Both a := by
  have p1 : print_shape.f a.Op = some (⟨#[77, 79, 86, 32, 91, 76, 93, 44, 36, 86]⟩ : ByteArray) := by rw [ho]; rfl
  have p2 : print_cutLast.f (⟨#[77, 79, 86, 32, 91, 76, 93, 44, 36, 86]⟩ : ByteArray) = some ((⟨#[77, 79, 86, 32]⟩ : ByteArray), (⟨#[91, 76, 93, 44, 36, 86]⟩ : ByteArray), true) := by kernel_rfl
  have hR : strings_Contains.f (⟨#[91, 76, 93, 44, 36, 86]⟩ : ByteArray) (⟨#[82]⟩ : ByteArray) = some false := by kernel_rfl
  have hS : strings_Contains.f (⟨#[91, 76, 93, 44, 36, 86]⟩ : ByteArray) (⟨#[83]⟩ : ByteArray) = some false := by kernel_rfl
  have hL : strings_Contains.f (⟨#[91, 76, 93, 44, 36, 86]⟩ : ByteArray) (⟨#[76]⟩ : ByteArray) = some true := by kernel_rfl
  have hV : strings_Contains.f (⟨#[91, 76, 93, 44, 36, 86]⟩ : ByteArray) (⟨#[86]⟩ : ByteArray) = some true := by kernel_rfl
  have P := instr_p p1 (by decide) p2 hR hS hL hV
  have hF : weirref08_Fields.f a.Op = some (vset (vset (vset (vset (Vector.replicate 4 false) 0 false) 1 false) 2 true) 3 true, true) := by rw [ho]; rfl
  have D := instr_d hF (r := false) (s := false) (l := true) (v := true) (by kernel_rfl) (by kernel_rfl) (by kernel_rfl) (by kernel_rfl)
  unfold Both weirref08_Instr.f
  rw [P, D]
  simp only [Option.bind_eq_bind, Option.bind_some]
  cases hk : okI a false false true true
  · exact ⟨_, _, rfl, rfl⟩
  obtain ⟨z1, z2, z3⟩ := okI_sizes hk
  have z4 := itoa_size hv
  have l0 : (⟨#[77, 79, 86, 32]⟩ : ByteArray).size = 4 := rfl
  have l1 : (⟨#[36]⟩ : ByteArray).size = 1 := rfl
  have l2 : (⟨#[91]⟩ : ByteArray).size = 1 := rfl
  have l3 : (⟨#[93]⟩ : ByteArray).size = 1 := rfl
  have l4 : (⟨#[44]⟩ : ByteArray).size = 1 := rfl
  simp only [if_true, Bool.not_true, Bool.false_eq_true, if_false, text_d hv, Option.bind_some]
  rw [wr (s := noB) (t := (⟨#[77, 79, 86, 32]⟩ : ByteArray)) (by rw [show noB.size = 0 from rfl, l0]; omega), nb]
  simp only [Option.bind_some]
  rw [stepC (n := 0) 91 (by decide) (by kernel_rfl) (by kernel_rfl) (by decide) (by decide) (by simp only [sz, rz, l0]; omega)]
  rw [stepL (n := 1) (by decide) (by kernel_rfl) (by kernel_rfl) (by simp only [sz, rz, l0]; omega)]
  rw [stepC (n := 2) 93 (by decide) (by kernel_rfl) (by kernel_rfl) (by decide) (by decide) (by simp only [sz, rz, l0]; omega)]
  rw [stepC (n := 3) 44 (by decide) (by kernel_rfl) (by kernel_rfl) (by decide) (by decide) (by simp only [sz, rz, l0]; omega)]
  rw [stepC (n := 4) 36 (by decide) (by kernel_rfl) (by kernel_rfl) (by decide) (by decide) (by simp only [sz, rz, l0]; omega)]
  rw [stepV (n := 5) (by decide) (by kernel_rfl) (by kernel_rfl) hv (by simp only [sz, rz, l0]; omega)]
  rw [stepE (n := 6) (by rfl)]
  simp only [Option.bind_some, bd_string.f]
  simp only [sz, l0, l1, l2, l3, l4]
  rw [if_pos (by omega), if_pos (by omega), if_pos (by omega), if_neg (by rw [ho]; decide), if_neg (by rw [ho]; decide), if_neg (by rw [ho]; decide), if_pos (by rw [ho]; decide), if_pos (by omega), if_pos (by omega), if_pos (by omega)]
  exact ⟨_, _, rfl, by simp only [ByteArray.append_assoc, show runeB 91 = (⟨#[91]⟩ : ByteArray) from rfl, show runeB 93 = (⟨#[93]⟩ : ByteArray) from rfl, show runeB 44 = (⟨#[44]⟩ : ByteArray) from rfl, show runeB 36 = (⟨#[36]⟩ : ByteArray) from rfl]⟩
theorem op5 {a : api_Instr} (ho : a.Op = 5) (hv : -9223372036854775808 ≤ a.Imm ∧ a.Imm ≤ 9223372036854775807) : Both a := by
  have p1 : print_shape.f a.Op = some (⟨#[77, 79, 86, 32, 91, 76, 93, 44, 83]⟩ : ByteArray) := by rw [ho]; rfl
  have p2 : print_cutLast.f (⟨#[77, 79, 86, 32, 91, 76, 93, 44, 83]⟩ : ByteArray) = some ((⟨#[77, 79, 86, 32]⟩ : ByteArray), (⟨#[91, 76, 93, 44, 83]⟩ : ByteArray), true) := by kernel_rfl
  have hR : strings_Contains.f (⟨#[91, 76, 93, 44, 83]⟩ : ByteArray) (⟨#[82]⟩ : ByteArray) = some false := by kernel_rfl
  have hS : strings_Contains.f (⟨#[91, 76, 93, 44, 83]⟩ : ByteArray) (⟨#[83]⟩ : ByteArray) = some true := by kernel_rfl
  have hL : strings_Contains.f (⟨#[91, 76, 93, 44, 83]⟩ : ByteArray) (⟨#[76]⟩ : ByteArray) = some true := by kernel_rfl
  have hV : strings_Contains.f (⟨#[91, 76, 93, 44, 83]⟩ : ByteArray) (⟨#[86]⟩ : ByteArray) = some false := by kernel_rfl
  have P := instr_p p1 (by decide) p2 hR hS hL hV
  have hF : weirref08_Fields.f a.Op = some (vset (vset (vset (vset (Vector.replicate 4 false) 0 false) 1 true) 2 true) 3 false, true) := by rw [ho]; rfl
  have D := instr_d hF (r := false) (s := true) (l := true) (v := false) (by kernel_rfl) (by kernel_rfl) (by kernel_rfl) (by kernel_rfl)
  unfold Both weirref08_Instr.f
  rw [P, D]
  simp only [Option.bind_eq_bind, Option.bind_some]
  cases hk : okI a false true true false
  · exact ⟨_, _, rfl, rfl⟩
  obtain ⟨z1, z2, z3⟩ := okI_sizes hk
  have z4 := itoa_size hv
  have l0 : (⟨#[77, 79, 86, 32]⟩ : ByteArray).size = 4 := rfl
  have l1 : (⟨#[36]⟩ : ByteArray).size = 1 := rfl
  have l2 : (⟨#[91]⟩ : ByteArray).size = 1 := rfl
  have l3 : (⟨#[93]⟩ : ByteArray).size = 1 := rfl
  have l4 : (⟨#[44]⟩ : ByteArray).size = 1 := rfl
  simp only [if_true, Bool.not_true, Bool.false_eq_true, if_false, text_d hv, Option.bind_some]
  rw [wr (s := noB) (t := (⟨#[77, 79, 86, 32]⟩ : ByteArray)) (by rw [show noB.size = 0 from rfl, l0]; omega), nb]
  simp only [Option.bind_some]
  rw [stepC (n := 0) 91 (by decide) (by kernel_rfl) (by kernel_rfl) (by decide) (by decide) (by simp only [sz, rz, l0]; omega)]
  rw [stepL (n := 1) (by decide) (by kernel_rfl) (by kernel_rfl) (by simp only [sz, rz, l0]; omega)]
  rw [stepC (n := 2) 93 (by decide) (by kernel_rfl) (by kernel_rfl) (by decide) (by decide) (by simp only [sz, rz, l0]; omega)]
  rw [stepC (n := 3) 44 (by decide) (by kernel_rfl) (by kernel_rfl) (by decide) (by decide) (by simp only [sz, rz, l0]; omega)]
  rw [stepS (n := 4) (by decide) (by kernel_rfl) (by kernel_rfl) (by simp only [sz, rz, l0]; omega)]
  rw [stepE (n := 5) (by rfl)]
  simp only [Option.bind_some, bd_string.f]
  simp only [sz, l0, l1, l2, l3, l4]
  rw [if_pos (by omega), if_pos (by omega), if_pos (by omega), if_neg (by rw [ho]; decide), if_neg (by rw [ho]; decide), if_neg (by rw [ho]; decide), if_neg (by rw [ho]; decide), if_pos (by rw [ho]; decide), if_pos (by omega), if_pos (by omega), if_pos (by omega)]
  exact ⟨_, _, rfl, by simp only [ByteArray.append_assoc, show runeB 91 = (⟨#[91]⟩ : ByteArray) from rfl, show runeB 93 = (⟨#[93]⟩ : ByteArray) from rfl, show runeB 44 = (⟨#[44]⟩ : ByteArray) from rfl]⟩
theorem op6 {a : api_Instr} (ho : a.Op = 6) (hv : -9223372036854775808 ≤ a.Imm ∧ a.Imm ≤ 9223372036854775807) : Both a := by
  have p1 : print_shape.f a.Op = some (⟨#[77, 70, 69, 78, 67, 69]⟩ : ByteArray) := by rw [ho]; rfl
  have p2 : print_cutLast.f (⟨#[77, 70, 69, 78, 67, 69]⟩ : ByteArray) = some ((⟨#[77, 70, 69, 78, 67, 69]⟩ : ByteArray), (⟨#[]⟩ : ByteArray), false) := by kernel_rfl
  have hR : strings_Contains.f (⟨#[]⟩ : ByteArray) (⟨#[82]⟩ : ByteArray) = some false := by kernel_rfl
  have hS : strings_Contains.f (⟨#[]⟩ : ByteArray) (⟨#[83]⟩ : ByteArray) = some false := by kernel_rfl
  have hL : strings_Contains.f (⟨#[]⟩ : ByteArray) (⟨#[76]⟩ : ByteArray) = some false := by kernel_rfl
  have hV : strings_Contains.f (⟨#[]⟩ : ByteArray) (⟨#[86]⟩ : ByteArray) = some false := by kernel_rfl
  have P := instr_p p1 (by decide) p2 hR hS hL hV
  have hF : weirref08_Fields.f a.Op = some (Vector.replicate 4 false, true) := by rw [ho]; rfl
  have D := instr_d hF (r := false) (s := false) (l := false) (v := false) (by kernel_rfl) (by kernel_rfl) (by kernel_rfl) (by kernel_rfl)
  unfold Both weirref08_Instr.f
  rw [P, D]
  simp only [Option.bind_eq_bind, Option.bind_some]
  cases hk : okI a false false false false
  · exact ⟨_, _, rfl, rfl⟩
  obtain ⟨z1, z2, z3⟩ := okI_sizes hk
  have z4 := itoa_size hv
  have l0 : (⟨#[77, 70, 69, 78, 67, 69]⟩ : ByteArray).size = 6 := rfl
  have l1 : (⟨#[36]⟩ : ByteArray).size = 1 := rfl
  have l2 : (⟨#[91]⟩ : ByteArray).size = 1 := rfl
  have l3 : (⟨#[93]⟩ : ByteArray).size = 1 := rfl
  have l4 : (⟨#[44]⟩ : ByteArray).size = 1 := rfl
  simp only [if_true, Bool.not_true, Bool.false_eq_true, if_false, text_d hv, Option.bind_some]
  rw [wr (s := noB) (t := (⟨#[77, 70, 69, 78, 67, 69]⟩ : ByteArray)) (by rw [show noB.size = 0 from rfl, l0]; omega), nb]
  simp only [Option.bind_some]
  rw [stepE (n := 0) (by rfl)]
  simp only [Option.bind_some, bd_string.f]
  simp only [sz, l0, l1, l2, l3, l4]
  rw [if_pos (by omega), if_pos (by omega), if_pos (by omega), if_neg (by rw [ho]; decide), if_neg (by rw [ho]; decide), if_neg (by rw [ho]; decide), if_neg (by rw [ho]; decide), if_neg (by rw [ho]; decide), if_neg (by rw [ho]; decide), if_neg (by rw [ho]; decide), if_neg (by rw [ho]; decide)]
  exact ⟨_, _, rfl, by simp only [ByteArray.append_assoc]⟩
theorem op7 {a : api_Instr} (ho : a.Op = 7) (hv : -9223372036854775808 ≤ a.Imm ∧ a.Imm ≤ 9223372036854775807) : Both a := by
  have p1 : print_shape.f a.Op = some (⟨#[88, 67, 72, 71, 32, 91, 76, 93, 44, 82]⟩ : ByteArray) := by rw [ho]; rfl
  have p2 : print_cutLast.f (⟨#[88, 67, 72, 71, 32, 91, 76, 93, 44, 82]⟩ : ByteArray) = some ((⟨#[88, 67, 72, 71, 32]⟩ : ByteArray), (⟨#[91, 76, 93, 44, 82]⟩ : ByteArray), true) := by kernel_rfl
  have hR : strings_Contains.f (⟨#[91, 76, 93, 44, 82]⟩ : ByteArray) (⟨#[82]⟩ : ByteArray) = some true := by kernel_rfl
  have hS : strings_Contains.f (⟨#[91, 76, 93, 44, 82]⟩ : ByteArray) (⟨#[83]⟩ : ByteArray) = some false := by kernel_rfl
  have hL : strings_Contains.f (⟨#[91, 76, 93, 44, 82]⟩ : ByteArray) (⟨#[76]⟩ : ByteArray) = some true := by kernel_rfl
  have hV : strings_Contains.f (⟨#[91, 76, 93, 44, 82]⟩ : ByteArray) (⟨#[86]⟩ : ByteArray) = some false := by kernel_rfl
  have P := instr_p p1 (by decide) p2 hR hS hL hV
  have hF : weirref08_Fields.f a.Op = some (vset (vset (vset (vset (Vector.replicate 4 false) 0 true) 1 false) 2 true) 3 false, true) := by rw [ho]; rfl
  have D := instr_d hF (r := true) (s := false) (l := true) (v := false) (by kernel_rfl) (by kernel_rfl) (by kernel_rfl) (by kernel_rfl)
  unfold Both weirref08_Instr.f
  rw [P, D]
  simp only [Option.bind_eq_bind, Option.bind_some]
  cases hk : okI a true false true false
  · exact ⟨_, _, rfl, rfl⟩
  obtain ⟨z1, z2, z3⟩ := okI_sizes hk
  have z4 := itoa_size hv
  have l0 : (⟨#[88, 67, 72, 71, 32]⟩ : ByteArray).size = 5 := rfl
  have l1 : (⟨#[36]⟩ : ByteArray).size = 1 := rfl
  have l2 : (⟨#[91]⟩ : ByteArray).size = 1 := rfl
  have l3 : (⟨#[93]⟩ : ByteArray).size = 1 := rfl
  have l4 : (⟨#[44]⟩ : ByteArray).size = 1 := rfl
  simp only [if_true, Bool.not_true, Bool.false_eq_true, if_false, text_d hv, Option.bind_some]
  rw [wr (s := noB) (t := (⟨#[88, 67, 72, 71, 32]⟩ : ByteArray)) (by rw [show noB.size = 0 from rfl, l0]; omega), nb]
  simp only [Option.bind_some]
  rw [stepC (n := 0) 91 (by decide) (by kernel_rfl) (by kernel_rfl) (by decide) (by decide) (by simp only [sz, rz, l0]; omega)]
  rw [stepL (n := 1) (by decide) (by kernel_rfl) (by kernel_rfl) (by simp only [sz, rz, l0]; omega)]
  rw [stepC (n := 2) 93 (by decide) (by kernel_rfl) (by kernel_rfl) (by decide) (by decide) (by simp only [sz, rz, l0]; omega)]
  rw [stepC (n := 3) 44 (by decide) (by kernel_rfl) (by kernel_rfl) (by decide) (by decide) (by simp only [sz, rz, l0]; omega)]
  rw [stepR (n := 4) (by decide) (by kernel_rfl) (by kernel_rfl) (by simp only [sz, rz, l0]; omega)]
  rw [stepE (n := 5) (by rfl)]
  simp only [Option.bind_some, bd_string.f]
  simp only [sz, l0, l1, l2, l3, l4]
  rw [if_pos (by omega), if_pos (by omega), if_pos (by omega), if_neg (by rw [ho]; decide), if_neg (by rw [ho]; decide), if_neg (by rw [ho]; decide), if_neg (by rw [ho]; decide), if_neg (by rw [ho]; decide), if_pos (by rw [ho]; decide), if_pos (by omega), if_pos (by omega), if_pos (by omega)]
  exact ⟨_, _, rfl, by simp only [ByteArray.append_assoc, show runeB 91 = (⟨#[91]⟩ : ByteArray) from rfl, show runeB 93 = (⟨#[93]⟩ : ByteArray) from rfl, show runeB 44 = (⟨#[44]⟩ : ByteArray) from rfl]⟩
theorem op8 {a : api_Instr} (ho : a.Op = 8) (hv : -9223372036854775808 ≤ a.Imm ∧ a.Imm ≤ 9223372036854775807) : Both a := by
  have p1 : print_shape.f a.Op = some (⟨#[76, 79, 67, 75, 32, 67, 77, 80, 88, 67, 72, 71, 32, 91, 76, 93, 44, 83]⟩ : ByteArray) := by rw [ho]; rfl
  have p2 : print_cutLast.f (⟨#[76, 79, 67, 75, 32, 67, 77, 80, 88, 67, 72, 71, 32, 91, 76, 93, 44, 83]⟩ : ByteArray) = some ((⟨#[76, 79, 67, 75, 32, 67, 77, 80, 88, 67, 72, 71, 32]⟩ : ByteArray), (⟨#[91, 76, 93, 44, 83]⟩ : ByteArray), true) := by kernel_rfl
  have hR : strings_Contains.f (⟨#[91, 76, 93, 44, 83]⟩ : ByteArray) (⟨#[82]⟩ : ByteArray) = some false := by kernel_rfl
  have hS : strings_Contains.f (⟨#[91, 76, 93, 44, 83]⟩ : ByteArray) (⟨#[83]⟩ : ByteArray) = some true := by kernel_rfl
  have hL : strings_Contains.f (⟨#[91, 76, 93, 44, 83]⟩ : ByteArray) (⟨#[76]⟩ : ByteArray) = some true := by kernel_rfl
  have hV : strings_Contains.f (⟨#[91, 76, 93, 44, 83]⟩ : ByteArray) (⟨#[86]⟩ : ByteArray) = some false := by kernel_rfl
  have P := instr_p p1 (by decide) p2 hR hS hL hV
  have hF : weirref08_Fields.f a.Op = some (vset (vset (vset (vset (Vector.replicate 4 false) 0 false) 1 true) 2 true) 3 false, true) := by rw [ho]; rfl
  have D := instr_d hF (r := false) (s := true) (l := true) (v := false) (by kernel_rfl) (by kernel_rfl) (by kernel_rfl) (by kernel_rfl)
  unfold Both weirref08_Instr.f
  rw [P, D]
  simp only [Option.bind_eq_bind, Option.bind_some]
  cases hk : okI a false true true false
  · exact ⟨_, _, rfl, rfl⟩
  obtain ⟨z1, z2, z3⟩ := okI_sizes hk
  have z4 := itoa_size hv
  have l0 : (⟨#[76, 79, 67, 75, 32, 67, 77, 80, 88, 67, 72, 71, 32]⟩ : ByteArray).size = 13 := rfl
  have l1 : (⟨#[36]⟩ : ByteArray).size = 1 := rfl
  have l2 : (⟨#[91]⟩ : ByteArray).size = 1 := rfl
  have l3 : (⟨#[93]⟩ : ByteArray).size = 1 := rfl
  have l4 : (⟨#[44]⟩ : ByteArray).size = 1 := rfl
  simp only [if_true, Bool.not_true, Bool.false_eq_true, if_false, text_d hv, Option.bind_some]
  rw [wr (s := noB) (t := (⟨#[76, 79, 67, 75, 32, 67, 77, 80, 88, 67, 72, 71, 32]⟩ : ByteArray)) (by rw [show noB.size = 0 from rfl, l0]; omega), nb]
  simp only [Option.bind_some]
  rw [stepC (n := 0) 91 (by decide) (by kernel_rfl) (by kernel_rfl) (by decide) (by decide) (by simp only [sz, rz, l0]; omega)]
  rw [stepL (n := 1) (by decide) (by kernel_rfl) (by kernel_rfl) (by simp only [sz, rz, l0]; omega)]
  rw [stepC (n := 2) 93 (by decide) (by kernel_rfl) (by kernel_rfl) (by decide) (by decide) (by simp only [sz, rz, l0]; omega)]
  rw [stepC (n := 3) 44 (by decide) (by kernel_rfl) (by kernel_rfl) (by decide) (by decide) (by simp only [sz, rz, l0]; omega)]
  rw [stepS (n := 4) (by decide) (by kernel_rfl) (by kernel_rfl) (by simp only [sz, rz, l0]; omega)]
  rw [stepE (n := 5) (by rfl)]
  simp only [Option.bind_some, bd_string.f]
  simp only [sz, l0, l1, l2, l3, l4]
  rw [if_pos (by omega), if_pos (by omega), if_pos (by omega), if_neg (by rw [ho]; decide), if_neg (by rw [ho]; decide), if_neg (by rw [ho]; decide), if_neg (by rw [ho]; decide), if_neg (by rw [ho]; decide), if_neg (by rw [ho]; decide), if_pos (by rw [ho]; decide), if_pos (by omega), if_pos (by omega), if_pos (by omega)]
  exact ⟨_, _, rfl, by simp only [ByteArray.append_assoc, show runeB 91 = (⟨#[91]⟩ : ByteArray) from rfl, show runeB 93 = (⟨#[93]⟩ : ByteArray) from rfl, show runeB 44 = (⟨#[44]⟩ : ByteArray) from rfl]⟩
theorem op9 {a : api_Instr} (ho : a.Op = 9) (hv : -9223372036854775808 ≤ a.Imm ∧ a.Imm ≤ 9223372036854775807) : Both a := by
  have p1 : print_shape.f a.Op = some (⟨#[76, 79, 67, 75, 32, 88, 65, 68, 68, 32, 91, 76, 93, 44, 82]⟩ : ByteArray) := by rw [ho]; rfl
  have p2 : print_cutLast.f (⟨#[76, 79, 67, 75, 32, 88, 65, 68, 68, 32, 91, 76, 93, 44, 82]⟩ : ByteArray) = some ((⟨#[76, 79, 67, 75, 32, 88, 65, 68, 68, 32]⟩ : ByteArray), (⟨#[91, 76, 93, 44, 82]⟩ : ByteArray), true) := by kernel_rfl
  have hR : strings_Contains.f (⟨#[91, 76, 93, 44, 82]⟩ : ByteArray) (⟨#[82]⟩ : ByteArray) = some true := by kernel_rfl
  have hS : strings_Contains.f (⟨#[91, 76, 93, 44, 82]⟩ : ByteArray) (⟨#[83]⟩ : ByteArray) = some false := by kernel_rfl
  have hL : strings_Contains.f (⟨#[91, 76, 93, 44, 82]⟩ : ByteArray) (⟨#[76]⟩ : ByteArray) = some true := by kernel_rfl
  have hV : strings_Contains.f (⟨#[91, 76, 93, 44, 82]⟩ : ByteArray) (⟨#[86]⟩ : ByteArray) = some false := by kernel_rfl
  have P := instr_p p1 (by decide) p2 hR hS hL hV
  have hF : weirref08_Fields.f a.Op = some (vset (vset (vset (vset (Vector.replicate 4 false) 0 true) 1 false) 2 true) 3 false, true) := by rw [ho]; rfl
  have D := instr_d hF (r := true) (s := false) (l := true) (v := false) (by kernel_rfl) (by kernel_rfl) (by kernel_rfl) (by kernel_rfl)
  unfold Both weirref08_Instr.f
  rw [P, D]
  simp only [Option.bind_eq_bind, Option.bind_some]
  cases hk : okI a true false true false
  · exact ⟨_, _, rfl, rfl⟩
  obtain ⟨z1, z2, z3⟩ := okI_sizes hk
  have z4 := itoa_size hv
  have l0 : (⟨#[76, 79, 67, 75, 32, 88, 65, 68, 68, 32]⟩ : ByteArray).size = 10 := rfl
  have l1 : (⟨#[36]⟩ : ByteArray).size = 1 := rfl
  have l2 : (⟨#[91]⟩ : ByteArray).size = 1 := rfl
  have l3 : (⟨#[93]⟩ : ByteArray).size = 1 := rfl
  have l4 : (⟨#[44]⟩ : ByteArray).size = 1 := rfl
  simp only [if_true, Bool.not_true, Bool.false_eq_true, if_false, text_d hv, Option.bind_some]
  rw [wr (s := noB) (t := (⟨#[76, 79, 67, 75, 32, 88, 65, 68, 68, 32]⟩ : ByteArray)) (by rw [show noB.size = 0 from rfl, l0]; omega), nb]
  simp only [Option.bind_some]
  rw [stepC (n := 0) 91 (by decide) (by kernel_rfl) (by kernel_rfl) (by decide) (by decide) (by simp only [sz, rz, l0]; omega)]
  rw [stepL (n := 1) (by decide) (by kernel_rfl) (by kernel_rfl) (by simp only [sz, rz, l0]; omega)]
  rw [stepC (n := 2) 93 (by decide) (by kernel_rfl) (by kernel_rfl) (by decide) (by decide) (by simp only [sz, rz, l0]; omega)]
  rw [stepC (n := 3) 44 (by decide) (by kernel_rfl) (by kernel_rfl) (by decide) (by decide) (by simp only [sz, rz, l0]; omega)]
  rw [stepR (n := 4) (by decide) (by kernel_rfl) (by kernel_rfl) (by simp only [sz, rz, l0]; omega)]
  rw [stepE (n := 5) (by rfl)]
  simp only [Option.bind_some, bd_string.f]
  simp only [sz, l0, l1, l2, l3, l4]
  rw [if_pos (by omega), if_pos (by omega), if_pos (by omega), if_neg (by rw [ho]; decide), if_neg (by rw [ho]; decide), if_neg (by rw [ho]; decide), if_neg (by rw [ho]; decide), if_neg (by rw [ho]; decide), if_neg (by rw [ho]; decide), if_neg (by rw [ho]; decide), if_pos (by rw [ho]; decide), if_pos (by omega), if_pos (by omega), if_pos (by omega)]
  exact ⟨_, _, rfl, by simp only [ByteArray.append_assoc, show runeB 91 = (⟨#[91]⟩ : ByteArray) from rfl, show runeB 93 = (⟨#[93]⟩ : ByteArray) from rfl, show runeB 44 = (⟨#[44]⟩ : ByteArray) from rfl]⟩
theorem opE {a : api_Instr} (ho : a.Op < 1 ∨ 9 < a.Op) : Both a := by
  have f : ∀ k : Int, 1 ≤ k → k ≤ 9 → (a.Op == k) = false := fun k h1 h2 => by simp; omega
  unfold Both weirref08_Instr.f weirref08_instr.f weirref08_Fields.f print_Instr.f print_shape.f
  simp only [f 1 (by decide) (by decide), f 2 (by decide) (by decide), f 3 (by decide) (by decide), f 4 (by decide) (by decide), f 5 (by decide) (by decide), f 6 (by decide) (by decide), f 7 (by decide) (by decide), f 8 (by decide) (by decide), f 9 (by decide) (by decide), Bool.false_eq_true, if_false, Option.bind_eq_bind, Option.bind_some]
  have p2 : print_cutLast.f (⟨#[]⟩ : ByteArray) = some ((⟨#[]⟩ : ByteArray), (⟨#[]⟩ : ByteArray), false) := by kernel_rfl
  have hR : strings_Contains.f (⟨#[]⟩ : ByteArray) (⟨#[82]⟩ : ByteArray) = some false := by kernel_rfl
  have hS : strings_Contains.f (⟨#[]⟩ : ByteArray) (⟨#[83]⟩ : ByteArray) = some false := by kernel_rfl
  have hL : strings_Contains.f (⟨#[]⟩ : ByteArray) (⟨#[76]⟩ : ByteArray) = some false := by kernel_rfl
  rw [p2]
  simp only [Option.bind_some, hR, hS, hL]
  rw [if_pos (show seq (⟨#[]⟩ : ByteArray) (⟨#[]⟩ : ByteArray) = true by rw [seq_p]; decide)]
  exact ⟨_, _, rfl, rfl⟩
theorem instr_both (a : api_Instr) (hv : -9223372036854775808 ≤ a.Imm ∧ a.Imm ≤ 9223372036854775807) : Both a := by
  by_cases h : a.Op < 1 ∨ 9 < a.Op
  · exact opE h
  · rcases (show a.Op = 1 ∨ a.Op = 2 ∨ a.Op = 3 ∨ a.Op = 4 ∨ a.Op = 5 ∨ a.Op = 6 ∨ a.Op = 7 ∨ a.Op = 8 ∨ a.Op = 9 by omega) with h | h | h | h | h | h | h | h | h
    · exact op1 h hv
    · exact op2 h hv
    · exact op3 h hv
    · exact op4 h hv
    · exact op5 h hv
    · exact op6 h hv
    · exact op7 h hv
    · exact op8 h hv
    · exact op9 h hv
theorem parts_law (r : api_Ref) (x : api_Init) (a : api_Instr) (hr : ok_api_Ref r) (hx : ok_api_Init x) (ha : ok_api_Instr a) : weirlaw08_PrintParts.f r x a = some true := by
  obtain ⟨t1, e1, p1, q1, -⟩ := ref_both r
  obtain ⟨t2, e2, p2, q2⟩ := init_both x (wf64 (by unfold ok_api_Init at hx; simp_all))
  obtain ⟨t3, e3, p3, q3⟩ := instr_both a (wf64 (by unfold ok_api_Instr at ha; simp_all))
  unfold weirlaw08_PrintParts.f
  rw [p1, q1, p2, q2, p3, q3]
  simp only [Option.bind_eq_bind, Option.bind_some, weirlaw08_num.f, beq_self_eq_true, if_true, seq_p, decide_true]
end Go.Proofs.YtmgjnplkpmcleaaDoor.K
