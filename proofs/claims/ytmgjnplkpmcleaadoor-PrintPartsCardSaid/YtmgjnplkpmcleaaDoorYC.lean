/- References, settings, instructions: what the program writes is what the document says; the law. -/
import Derived.Test.YtmgjnplkpmcleaaDoorYB
set_option linter.unusedVariables false
set_option linter.unusedSimpArgs false
set_option maxRecDepth 100000
namespace Go.Proofs.YtmgjnplkpmcleaaDoor.K
open Go

abbrev noB : ByteArray := ⟨#[]⟩
theorem ref_both (r : api_Ref) : ∃ t e, print_Ref.f r = some (t, e) ∧ weirref08_Ref.f r = some (t, e) ∧ t.size ≤ 100 := by
  have e1 : (⟨#[58]⟩ : ByteArray).size = 1 := rfl
  have e0 : (⟨#[]⟩ : ByteArray).size = 0 := rfl
  unfold print_Ref.f weirref08_Ref.f weirref08_ref.f
  by_cases h1 : r.Thread < -1
  · have d1 : decide (r.Thread < -1) = true := decide_eq_true h1
    have d2 : decide (r.Thread ≥ -1) = false := decide_eq_false (by omega)
    simp only [d1, d2, if_true, Bool.false_eq_true, if_false, Option.bind_eq_bind, Option.bind_some, Bool.not_false]
    exact ⟨_, _, rfl, rfl, by omega⟩
  have d1 : decide (r.Thread < -1) = false := decide_eq_false h1
  have d2 : decide (r.Thread ≥ -1) = true := decide_eq_true (by omega)
  by_cases h2 : r.Thread > 9999
  · have d3 : decide (r.Thread > 9999) = true := decide_eq_true h2
    have d4 : decide (r.Thread ≤ 9999) = false := decide_eq_false (by omega)
    simp only [d1, d2, d3, d4, if_true, Bool.false_eq_true, if_false, Option.bind_eq_bind, Option.bind_some, Bool.not_false]
    exact ⟨_, _, rfl, rfl, by omega⟩
  have d3 : decide (r.Thread > 9999) = false := decide_eq_false h2
  have d4 : decide (r.Thread ≤ 9999) = true := decide_eq_true (by omega)
  simp only [d1, d2, d3, d4, name_p, name_d, if_true, Bool.false_eq_true, if_false, Option.bind_eq_bind, Option.bind_some]
  cases hn : isName r.Name
  · exact ⟨_, _, rfl, rfl, by omega⟩
  have hs := name_size hn
  simp only [Bool.not_true, Bool.false_eq_true, if_false]
  by_cases h3 : r.Thread < 0
  · have h4 : r.Thread = -1 := by omega
    rw [if_pos (decide_eq_true h3), if_pos (by rw [h4]; rfl)]
    exact ⟨_, _, rfl, rfl, by omega⟩
  · have kt := itoa_size (v := r.Thread) (by omega)
    rw [if_neg (nt (decide_eq_false h3)), if_neg (by simp; omega), itoa_p (by omega), text_d (by omega)]
    simp only [Option.bind_some, sz, e1]
    rw [if_pos (by omega), if_pos (by omega)]
    exact ⟨_, _, rfl, rfl, by rw [sz, sz, e1]; omega⟩
theorem init_both (x : api_Init) (hv : -9223372036854775808 ≤ x.Value ∧ x.Value ≤ 9223372036854775807) : ∃ t e, print_Init.f x = some (t, e) ∧ weirref08_Init.f x = some (t, e) := by
  have e1 : (⟨#[61]⟩ : ByteArray).size = 1 := rfl
  obtain ⟨t, e, h1, h2, h3⟩ := ref_both x.Ref
  have kt := itoa_size hv
  unfold print_Init.f weirref08_Init.f word_Text.f
  rw [h1, h2, format_p hv, text_d hv]
  simp only [Option.bind_eq_bind, Option.bind_some, sz, e1]
  by_cases he : (e != 0) = true
  · rw [if_pos he]; exact ⟨_, _, rfl, rfl⟩
  · rw [if_neg he, if_pos (by omega), if_pos (by omega)]; exact ⟨_, _, rfl, rfl⟩
/-- Is a field right, used or not? -/
def okF (used : Bool) (s : ByteArray) : Bool := if used then isName s else decide (s = noB)
theorem okF_size {u : Bool} {s : ByteArray} (h : okF u s = true) : s.size ≤ 64 := by
  unfold okF at h
  cases u
  · simp at h; rw [h]; decide
  · simp at h; exact name_size h
def okI (a : api_Instr) (r s l v : Bool) : Bool := okF r a.Reg && okF s a.Src && okF l a.Loc && (v || a.Imm == 0)
theorem instr_p {a : api_Instr} {sh words rest : ByteArray} {x r s l v : Bool} (h1 : print_shape.f a.Op = some sh) (h0 : decide (sh = noB) = false) (h2 : print_cutLast.f sh = some (words, rest, x))
    (hR : strings_Contains.f rest (⟨#[82]⟩ : ByteArray) = some r) (hS : strings_Contains.f rest (⟨#[83]⟩ : ByteArray) = some s) (hL : strings_Contains.f rest (⟨#[76]⟩ : ByteArray) = some l) (hV : strings_Contains.f rest (⟨#[86]⟩ : ByteArray) = some v) :
    print_Instr.f a = if okI a r s l v = true then (bd_write.f noB words >>= (fun (t60, t61) => (print_Instr.l0 a rest t61 0 >>= (fun t75 => (bd_string.f t75 >>= (fun t83 => some (t83, (0 : Int)))))))) else some (noB, (80 : Int)) := by
  have i1 : (a.Imm == 0) = decide (a.Imm = 0) := rfl
  have i2 : (a.Imm != 0) = !decide (a.Imm = 0) := rfl
  unfold print_Instr.f okI okF
  rw [h1]
  simp only [Option.bind_eq_bind, Option.bind_some, h2, hR, hS, hL, hV, h1, name_p, seq_p, i1, i2, h0, Bool.false_eq_true, if_false]
  generalize decide (a.Reg = noB) = b1
  generalize decide (a.Src = noB) = b2
  generalize decide (a.Loc = noB) = b3
  generalize isName a.Reg = c1
  generalize isName a.Src = c2
  generalize isName a.Loc = c3
  generalize decide (a.Imm = 0) = c4
  cases r <;> cases s <;> cases l <;> cases v <;> cases b1 <;> cases b2 <;> cases b3 <;> cases c1 <;> cases c2 <;> cases c3 <;> cases c4 <;> rfl
theorem instr_d {a : api_Instr} {t5 : Vector Bool 4} {r s l v : Bool} (h : weirref08_Fields.f a.Op = some (t5, true)) (h0 : vget t5 (0 : Int) = r) (h1 : vget t5 (1 : Int) = s) (h2 : vget t5 (2 : Int) = l) (h3 : vget t5 (3 : Int) = v) :
    weirref08_instr.f a = some (okI a r s l v) := by
  have g0 : (0 : Int) ≤ 0 ∧ (0 : Int) < 4 := by decide
  have g1 : (0 : Int) ≤ 1 ∧ (1 : Int) < 4 := by decide
  have g2 : (0 : Int) ≤ 2 ∧ (2 : Int) < 4 := by decide
  have g3 : (0 : Int) ≤ 3 ∧ (3 : Int) < 4 := by decide
  have i1 : (a.Imm == 0) = decide (a.Imm = 0) := rfl
  unfold weirref08_instr.f okI okF weirref08_field.f
  rw [h]
  simp only [Option.bind_eq_bind, Option.bind_some, if_pos g0, if_pos g1, if_pos g2, if_pos g3, h0, h1, h2, h3, name_d, seq_p, i1]
  generalize decide (a.Reg = noB) = b1
  generalize decide (a.Src = noB) = b2
  generalize decide (a.Loc = noB) = b3
  generalize isName a.Reg = c1
  generalize isName a.Src = c2
  generalize isName a.Loc = c3
  generalize decide (a.Imm = 0) = c4
  cases r <;> cases s <;> cases l <;> cases v <;> cases b1 <;> cases b2 <;> cases b3 <;> cases c1 <;> cases c2 <;> cases c3 <;> cases c4 <;> rfl
/-! ### The walk over a shape -/
section
variable {a : api_Instr} {rest s : ByteArray} {n : Nat}
theorem wt {v : Int} (h : -9223372036854775808 ≤ v ∧ v ≤ 9223372036854775807) : word_Text.f v = some (itoaB v) := by unfold word_Text.f; rw [format_p h]; rfl
theorem stepR (hn : n < rest.size) (hc : rdc rest n = 82) (hw : rdw rest n = 1) (hs : s.size + a.Reg.size ≤ 1000000000000) : print_Instr.l0 a rest s n = print_Instr.l0 a rest (s ++ a.Reg) (n + 1) := by
  rw [print_Instr.l0, if_pos (decide_eq_true hn), hc, hw, wr hs]; rfl
theorem stepS (hn : n < rest.size) (hc : rdc rest n = 83) (hw : rdw rest n = 1) (hs : s.size + a.Src.size ≤ 1000000000000) : print_Instr.l0 a rest s n = print_Instr.l0 a rest (s ++ a.Src) (n + 1) := by
  rw [print_Instr.l0, if_pos (decide_eq_true hn), hc, hw, wr hs]; rfl
theorem stepL (hn : n < rest.size) (hc : rdc rest n = 76) (hw : rdw rest n = 1) (hs : s.size + a.Loc.size ≤ 1000000000000) : print_Instr.l0 a rest s n = print_Instr.l0 a rest (s ++ a.Loc) (n + 1) := by
  rw [print_Instr.l0, if_pos (decide_eq_true hn), hc, hw, wr hs]; rfl
theorem stepV (hn : n < rest.size) (hc : rdc rest n = 86) (hw : rdw rest n = 1) (hv : -9223372036854775808 ≤ a.Imm ∧ a.Imm ≤ 9223372036854775807) (hs : s.size ≤ 1000000000) : print_Instr.l0 a rest s n = print_Instr.l0 a rest (s ++ itoaB a.Imm) (n + 1) := by
  have := itoa_size hv
  rw [print_Instr.l0, if_pos (decide_eq_true hn), hc, hw, wt hv]
  simp only [Option.bind_eq_bind, Option.bind_some]
  rw [wr (t := itoaB a.Imm) (by omega)]; rfl
theorem stepC (c : Int) (hn : n < rest.size) (hc : rdc rest n = c) (hw : rdw rest n = 1) (h1 : (c == 82 || c == 83 || c == 76 || c == 86) = false) (h2 : 0 ≤ c ∧ c ≤ 127) (hs : s.size ≤ 1000000000) : print_Instr.l0 a rest s n = print_Instr.l0 a rest (s ++ runeB c) (n + 1) := by
  simp only [Bool.or_eq_false_iff] at h1
  obtain ⟨⟨⟨h82, h83⟩, h76⟩, h86⟩ := h1
  rw [print_Instr.l0, if_pos (decide_eq_true hn), hc, hw, h82, h83, h76, h86]
  simp only [Bool.false_eq_true, if_false]
  unfold bd_rune.f
  rw [strBytes_len, if_pos (by omega)]; rfl
theorem stepE (hn : rest.size = n) : print_Instr.l0 a rest s n = some s := by
  rw [print_Instr.l0, if_neg (nt (decide_eq_false (by omega)))]
end
end Go.Proofs.YtmgjnplkpmcleaaDoor.K
