import Derived.Test.YtmgjnplkpmcleaaDoorNL
import Derived.Test.YtmgjnplkpmcleaaDoorE
set_option linter.unusedVariables false
set_option linter.unusedSimpArgs false
namespace Go.Proofs.YtmgjnplkpmcleaaDoor.K
open Go Go.RowKit Go.ChangeShapes Go.WideShapes Go.ChangeAt
def ok_api_Ref (y : api_Ref) : Prop := (Lit.int .i64 y.Thread).wf = true ∧ y.Name.size ≤ bnd
theorem opens_api_Ref : Opens Tryd.prog 23 (flat enc_api_Ref) ok_api_Ref := by
  intro H en w spare held fuel cs x h hw
  have hu : Tryd.prog.underlying 23 = some (.struct (Tryd.prog.fieldsOf 23)) := by kernel_rfl
  have hn : (Tryd.prog.fieldsOf 23).size = 2 := by kernel_rfl
  obtain ⟨xs, m, -, rfl, hl, hxl, hf⟩ := DataW.trod_struct hu h
  rw [hn] at hxl
  have hlN : cs.length = 2 := by rw [hl]; kernel_rfl
  have f0 := hf 0 (fld Tryd.prog 23 0) (by kernel_rfl)
  obtain ⟨y0, e0⟩ := part_some hxl (show 0 < 2 by omega)
  rw [e0, show (fld Tryd.prog 23 0).type = 3 from by kernel_rfl, show (fld Tryd.prog 23 0).offset = 0 from by kernel_rfl, show Tryd.prog.cellsOf 3 = 1 from by kernel_rfl] at f0
  obtain ⟨n0, p0, w0, -⟩ := (opens_int (P := Tryd.prog) (t := 3) (k := .i64) (by kernel_rfl) (by kernel_rfl)) en w spare held m _ _ f0 (fun k hk => hw k (by simp only [DataW.weights, hu]; exact DataW.weights_mem_each (j := 0) (t := 3) (by kernel_rfl) (by rw [List.getElem?_map, e0]; rfl) k hk))
  have f1 := hf 1 (fld Tryd.prog 23 1) (by kernel_rfl)
  obtain ⟨y1, e1⟩ := part_some hxl (show 1 < 2 by omega)
  rw [e1, show (fld Tryd.prog 23 1).type = 9 from by kernel_rfl, show (fld Tryd.prog 23 1).offset = 1 from by kernel_rfl, show Tryd.prog.cellsOf 9 = 1 from by kernel_rfl] at f1
  obtain ⟨n1, p1, w1, -⟩ := (opens_str (P := Tryd.prog) (t := 9) (by kernel_rfl) (by kernel_rfl)) en w spare held m _ _ f1 (fun k hk => hw k (by simp only [DataW.weights, hu]; exact DataW.weights_mem_each (j := 1) (t := 9) (by kernel_rfl) (by rw [List.getElem?_map, e1]; rfl) k hk))
  have q0 : cs.drop 0 = (encI .i64) n0 ++ cs.drop 1 := by rw [← show (cs.drop 0).take 1 = (encI .i64) n0 from p0, show 1 = 0 + 1 from rfl, ← List.drop_drop, List.take_append_drop]
  have q1 : cs.drop 1 = encS n1 ++ cs.drop 2 := by rw [← show (cs.drop 1).take 1 = encS n1 from p1, show 2 = 1 + 1 from rfl, ← List.drop_drop, List.take_append_drop]
  have hc : cs = enc_api_Ref ⟨n0, n1⟩ := by
    have h0 : cs = cs.drop 0 := rfl
    rw [h0, q0, q1, List.drop_of_length_le (Nat.le_of_eq hlN)]
    simp [enc_api_Ref, encI, encB, encS]
  exact ⟨_, hc, ⟨w0, w1⟩, hl⟩
def ok_api_Init (y : api_Init) : Prop := ok_api_Ref y.Ref ∧ (Lit.int .i64 y.Value).wf = true
theorem opens_api_Init : Opens Tryd.prog 25 (flat enc_api_Init) ok_api_Init := by
  intro H en w spare held fuel cs x h hw
  have hu : Tryd.prog.underlying 25 = some (.struct (Tryd.prog.fieldsOf 25)) := by kernel_rfl
  have hn : (Tryd.prog.fieldsOf 25).size = 2 := by kernel_rfl
  obtain ⟨xs, m, -, rfl, hl, hxl, hf⟩ := DataW.trod_struct hu h
  rw [hn] at hxl
  have hlN : cs.length = 3 := by rw [hl]; kernel_rfl
  have f0 := hf 0 (fld Tryd.prog 25 0) (by kernel_rfl)
  obtain ⟨y0, e0⟩ := part_some hxl (show 0 < 2 by omega)
  rw [e0, show (fld Tryd.prog 25 0).type = 23 from by kernel_rfl, show (fld Tryd.prog 25 0).offset = 0 from by kernel_rfl, show Tryd.prog.cellsOf 23 = 2 from by kernel_rfl] at f0
  obtain ⟨n0, p0, w0, -⟩ := opens_api_Ref en w spare held m _ _ f0 (fun k hk => hw k (by simp only [DataW.weights, hu]; exact DataW.weights_mem_each (j := 0) (t := 23) (by kernel_rfl) (by rw [List.getElem?_map, e0]; rfl) k hk))
  have f1 := hf 1 (fld Tryd.prog 25 1) (by kernel_rfl)
  obtain ⟨y1, e1⟩ := part_some hxl (show 1 < 2 by omega)
  rw [e1, show (fld Tryd.prog 25 1).type = 2 from by kernel_rfl, show (fld Tryd.prog 25 1).offset = 2 from by kernel_rfl, show Tryd.prog.cellsOf 2 = 1 from by kernel_rfl] at f1
  obtain ⟨n1, p1, w1, -⟩ := (opens_int (P := Tryd.prog) (t := 2) (k := .i64) (by kernel_rfl) (by kernel_rfl)) en w spare held m _ _ f1 (fun k hk => hw k (by simp only [DataW.weights, hu]; exact DataW.weights_mem_each (j := 1) (t := 2) (by kernel_rfl) (by rw [List.getElem?_map, e1]; rfl) k hk))
  have q0 : cs.drop 0 = enc_api_Ref n0 ++ cs.drop 2 := by rw [← show (cs.drop 0).take 2 = enc_api_Ref n0 from p0, show 2 = 0 + 2 from rfl, ← List.drop_drop, List.take_append_drop]
  have q1 : cs.drop 2 = (encI .i64) n1 ++ cs.drop 3 := by rw [← show (cs.drop 2).take 1 = (encI .i64) n1 from p1, show 3 = 2 + 1 from rfl, ← List.drop_drop, List.take_append_drop]
  have hc : cs = enc_api_Init ⟨n0, n1⟩ := by
    have h0 : cs = cs.drop 0 := rfl
    rw [h0, q0, q1, List.drop_of_length_le (Nat.le_of_eq hlN)]
    simp [enc_api_Init, enc_api_Ref, encI, encB, encS]
  exact ⟨_, hc, ⟨w0, w1⟩, hl⟩
def ok_api_Instr (y : api_Instr) : Prop := (Lit.int .i64 y.Op).wf = true ∧ y.Reg.size ≤ bnd ∧ y.Src.size ≤ bnd ∧ y.Loc.size ≤ bnd ∧ (Lit.int .i64 y.Imm).wf = true
theorem opens_api_Instr : Opens Tryd.prog 27 (flat enc_api_Instr) ok_api_Instr := by
  intro H en w spare held fuel cs x h hw
  have hu : Tryd.prog.underlying 27 = some (.struct (Tryd.prog.fieldsOf 27)) := by kernel_rfl
  have hn : (Tryd.prog.fieldsOf 27).size = 5 := by kernel_rfl
  obtain ⟨xs, m, -, rfl, hl, hxl, hf⟩ := DataW.trod_struct hu h
  rw [hn] at hxl
  have hlN : cs.length = 5 := by rw [hl]; kernel_rfl
  have f0 := hf 0 (fld Tryd.prog 27 0) (by kernel_rfl)
  obtain ⟨y0, e0⟩ := part_some hxl (show 0 < 5 by omega)
  rw [e0, show (fld Tryd.prog 27 0).type = 3 from by kernel_rfl, show (fld Tryd.prog 27 0).offset = 0 from by kernel_rfl, show Tryd.prog.cellsOf 3 = 1 from by kernel_rfl] at f0
  obtain ⟨n0, p0, w0, -⟩ := (opens_int (P := Tryd.prog) (t := 3) (k := .i64) (by kernel_rfl) (by kernel_rfl)) en w spare held m _ _ f0 (fun k hk => hw k (by simp only [DataW.weights, hu]; exact DataW.weights_mem_each (j := 0) (t := 3) (by kernel_rfl) (by rw [List.getElem?_map, e0]; rfl) k hk))
  have f1 := hf 1 (fld Tryd.prog 27 1) (by kernel_rfl)
  obtain ⟨y1, e1⟩ := part_some hxl (show 1 < 5 by omega)
  rw [e1, show (fld Tryd.prog 27 1).type = 9 from by kernel_rfl, show (fld Tryd.prog 27 1).offset = 1 from by kernel_rfl, show Tryd.prog.cellsOf 9 = 1 from by kernel_rfl] at f1
  obtain ⟨n1, p1, w1, -⟩ := (opens_str (P := Tryd.prog) (t := 9) (by kernel_rfl) (by kernel_rfl)) en w spare held m _ _ f1 (fun k hk => hw k (by simp only [DataW.weights, hu]; exact DataW.weights_mem_each (j := 1) (t := 9) (by kernel_rfl) (by rw [List.getElem?_map, e1]; rfl) k hk))
  have f2 := hf 2 (fld Tryd.prog 27 2) (by kernel_rfl)
  obtain ⟨y2, e2⟩ := part_some hxl (show 2 < 5 by omega)
  rw [e2, show (fld Tryd.prog 27 2).type = 9 from by kernel_rfl, show (fld Tryd.prog 27 2).offset = 2 from by kernel_rfl, show Tryd.prog.cellsOf 9 = 1 from by kernel_rfl] at f2
  obtain ⟨n2, p2, w2, -⟩ := (opens_str (P := Tryd.prog) (t := 9) (by kernel_rfl) (by kernel_rfl)) en w spare held m _ _ f2 (fun k hk => hw k (by simp only [DataW.weights, hu]; exact DataW.weights_mem_each (j := 2) (t := 9) (by kernel_rfl) (by rw [List.getElem?_map, e2]; rfl) k hk))
  have f3 := hf 3 (fld Tryd.prog 27 3) (by kernel_rfl)
  obtain ⟨y3, e3⟩ := part_some hxl (show 3 < 5 by omega)
  rw [e3, show (fld Tryd.prog 27 3).type = 9 from by kernel_rfl, show (fld Tryd.prog 27 3).offset = 3 from by kernel_rfl, show Tryd.prog.cellsOf 9 = 1 from by kernel_rfl] at f3
  obtain ⟨n3, p3, w3, -⟩ := (opens_str (P := Tryd.prog) (t := 9) (by kernel_rfl) (by kernel_rfl)) en w spare held m _ _ f3 (fun k hk => hw k (by simp only [DataW.weights, hu]; exact DataW.weights_mem_each (j := 3) (t := 9) (by kernel_rfl) (by rw [List.getElem?_map, e3]; rfl) k hk))
  have f4 := hf 4 (fld Tryd.prog 27 4) (by kernel_rfl)
  obtain ⟨y4, e4⟩ := part_some hxl (show 4 < 5 by omega)
  rw [e4, show (fld Tryd.prog 27 4).type = 2 from by kernel_rfl, show (fld Tryd.prog 27 4).offset = 4 from by kernel_rfl, show Tryd.prog.cellsOf 2 = 1 from by kernel_rfl] at f4
  obtain ⟨n4, p4, w4, -⟩ := (opens_int (P := Tryd.prog) (t := 2) (k := .i64) (by kernel_rfl) (by kernel_rfl)) en w spare held m _ _ f4 (fun k hk => hw k (by simp only [DataW.weights, hu]; exact DataW.weights_mem_each (j := 4) (t := 2) (by kernel_rfl) (by rw [List.getElem?_map, e4]; rfl) k hk))
  have q0 : cs.drop 0 = (encI .i64) n0 ++ cs.drop 1 := by rw [← show (cs.drop 0).take 1 = (encI .i64) n0 from p0, show 1 = 0 + 1 from rfl, ← List.drop_drop, List.take_append_drop]
  have q1 : cs.drop 1 = encS n1 ++ cs.drop 2 := by rw [← show (cs.drop 1).take 1 = encS n1 from p1, show 2 = 1 + 1 from rfl, ← List.drop_drop, List.take_append_drop]
  have q2 : cs.drop 2 = encS n2 ++ cs.drop 3 := by rw [← show (cs.drop 2).take 1 = encS n2 from p2, show 3 = 2 + 1 from rfl, ← List.drop_drop, List.take_append_drop]
  have q3 : cs.drop 3 = encS n3 ++ cs.drop 4 := by rw [← show (cs.drop 3).take 1 = encS n3 from p3, show 4 = 3 + 1 from rfl, ← List.drop_drop, List.take_append_drop]
  have q4 : cs.drop 4 = (encI .i64) n4 ++ cs.drop 5 := by rw [← show (cs.drop 4).take 1 = (encI .i64) n4 from p4, show 5 = 4 + 1 from rfl, ← List.drop_drop, List.take_append_drop]
  have hc : cs = enc_api_Instr ⟨n0, n1, n2, n3, n4⟩ := by
    have h0 : cs = cs.drop 0 := rfl
    rw [h0, q0, q1, q2, q3, q4, List.drop_of_length_le (Nat.le_of_eq hlN)]
    simp [enc_api_Instr, encI, encB, encS]
  exact ⟨_, hc, ⟨w0, w1, w2, w3, w4⟩, hl⟩
end Go.Proofs.YtmgjnplkpmcleaaDoor.K
