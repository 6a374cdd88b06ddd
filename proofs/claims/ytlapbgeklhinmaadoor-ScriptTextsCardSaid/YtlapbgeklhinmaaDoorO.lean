import Derived.Test.YtlapbgeklhinmaaDoorNL
import Derived.Test.YtlapbgeklhinmaaDoorE
set_option linter.unusedVariables false
set_option linter.unusedSimpArgs false
namespace Go.Proofs.YtlapbgeklhinmaaDoor.K
open Go Go.RowKit Go.ChangeShapes Go.WideShapes Go.ChangeAt
def ok_api_Pick (y : api_Pick) : Prop := (Lit.int .i64 y.Thread).wf = true ∧ (Lit.int .i64 y.Kind).wf = true ∧ (Lit.int .i64 y.Loc).wf = true
theorem opens_api_Pick : Opens Tryd.prog 24 (flat enc_api_Pick) ok_api_Pick := by
  intro H en w spare held fuel cs x h hw
  have hu : Tryd.prog.underlying 24 = some (.struct (Tryd.prog.fieldsOf 24)) := by kernel_rfl
  have hn : (Tryd.prog.fieldsOf 24).size = 3 := by kernel_rfl
  obtain ⟨xs, m, -, rfl, hl, hxl, hf⟩ := DataW.trod_struct hu h
  rw [hn] at hxl
  have hlN : cs.length = 3 := by rw [hl]; kernel_rfl
  have f0 := hf 0 (fld Tryd.prog 24 0) (by kernel_rfl)
  obtain ⟨y0, e0⟩ := part_some hxl (show 0 < 3 by omega)
  rw [e0, show (fld Tryd.prog 24 0).type = 3 from by kernel_rfl, show (fld Tryd.prog 24 0).offset = 0 from by kernel_rfl, show Tryd.prog.cellsOf 3 = 1 from by kernel_rfl] at f0
  obtain ⟨n0, p0, w0, -⟩ := (opens_int (P := Tryd.prog) (t := 3) (k := .i64) (by kernel_rfl) (by kernel_rfl)) en w spare held m _ _ f0 (fun k hk => hw k (by simp only [DataW.weights, hu]; exact DataW.weights_mem_each (j := 0) (t := 3) (by kernel_rfl) (by rw [List.getElem?_map, e0]; rfl) k hk))
  have f1 := hf 1 (fld Tryd.prog 24 1) (by kernel_rfl)
  obtain ⟨y1, e1⟩ := part_some hxl (show 1 < 3 by omega)
  rw [e1, show (fld Tryd.prog 24 1).type = 3 from by kernel_rfl, show (fld Tryd.prog 24 1).offset = 1 from by kernel_rfl, show Tryd.prog.cellsOf 3 = 1 from by kernel_rfl] at f1
  obtain ⟨n1, p1, w1, -⟩ := (opens_int (P := Tryd.prog) (t := 3) (k := .i64) (by kernel_rfl) (by kernel_rfl)) en w spare held m _ _ f1 (fun k hk => hw k (by simp only [DataW.weights, hu]; exact DataW.weights_mem_each (j := 1) (t := 3) (by kernel_rfl) (by rw [List.getElem?_map, e1]; rfl) k hk))
  have f2 := hf 2 (fld Tryd.prog 24 2) (by kernel_rfl)
  obtain ⟨y2, e2⟩ := part_some hxl (show 2 < 3 by omega)
  rw [e2, show (fld Tryd.prog 24 2).type = 3 from by kernel_rfl, show (fld Tryd.prog 24 2).offset = 2 from by kernel_rfl, show Tryd.prog.cellsOf 3 = 1 from by kernel_rfl] at f2
  obtain ⟨n2, p2, w2, -⟩ := (opens_int (P := Tryd.prog) (t := 3) (k := .i64) (by kernel_rfl) (by kernel_rfl)) en w spare held m _ _ f2 (fun k hk => hw k (by simp only [DataW.weights, hu]; exact DataW.weights_mem_each (j := 2) (t := 3) (by kernel_rfl) (by rw [List.getElem?_map, e2]; rfl) k hk))
  have q0 : cs.drop 0 = (encI .i64) n0 ++ cs.drop 1 := by rw [← show (cs.drop 0).take 1 = (encI .i64) n0 from p0, show 1 = 0 + 1 from rfl, ← List.drop_drop, List.take_append_drop]
  have q1 : cs.drop 1 = (encI .i64) n1 ++ cs.drop 2 := by rw [← show (cs.drop 1).take 1 = (encI .i64) n1 from p1, show 2 = 1 + 1 from rfl, ← List.drop_drop, List.take_append_drop]
  have q2 : cs.drop 2 = (encI .i64) n2 ++ cs.drop 3 := by rw [← show (cs.drop 2).take 1 = (encI .i64) n2 from p2, show 3 = 2 + 1 from rfl, ← List.drop_drop, List.take_append_drop]
  have hc : cs = enc_api_Pick ⟨n0, n1, n2⟩ := by
    have h0 : cs = cs.drop 0 := rfl
    rw [h0, q0, q1, q2, List.drop_of_length_le (Nat.le_of_eq hlN)]
    simp [enc_api_Pick, encI, encB, encS]
  exact ⟨_, hc, ⟨w0, w1, w2⟩, hl⟩
def ok_weirref05_Fault (y : weirref05_Fault) : Prop := (Lit.int .i64 y.Line).wf = true ∧ (Lit.int .i64 y.Col).wf = true ∧ (Lit.int .i64 y.Code).wf = true
theorem opens_weirref05_Fault : Opens Tryd.prog 35 (flat enc_weirref05_Fault) ok_weirref05_Fault := by
  intro H en w spare held fuel cs x h hw
  have hu : Tryd.prog.underlying 35 = some (.struct (Tryd.prog.fieldsOf 35)) := by kernel_rfl
  have hn : (Tryd.prog.fieldsOf 35).size = 3 := by kernel_rfl
  obtain ⟨xs, m, -, rfl, hl, hxl, hf⟩ := DataW.trod_struct hu h
  rw [hn] at hxl
  have hlN : cs.length = 3 := by rw [hl]; kernel_rfl
  have f0 := hf 0 (fld Tryd.prog 35 0) (by kernel_rfl)
  obtain ⟨y0, e0⟩ := part_some hxl (show 0 < 3 by omega)
  rw [e0, show (fld Tryd.prog 35 0).type = 3 from by kernel_rfl, show (fld Tryd.prog 35 0).offset = 0 from by kernel_rfl, show Tryd.prog.cellsOf 3 = 1 from by kernel_rfl] at f0
  obtain ⟨n0, p0, w0, -⟩ := (opens_int (P := Tryd.prog) (t := 3) (k := .i64) (by kernel_rfl) (by kernel_rfl)) en w spare held m _ _ f0 (fun k hk => hw k (by simp only [DataW.weights, hu]; exact DataW.weights_mem_each (j := 0) (t := 3) (by kernel_rfl) (by rw [List.getElem?_map, e0]; rfl) k hk))
  have f1 := hf 1 (fld Tryd.prog 35 1) (by kernel_rfl)
  obtain ⟨y1, e1⟩ := part_some hxl (show 1 < 3 by omega)
  rw [e1, show (fld Tryd.prog 35 1).type = 3 from by kernel_rfl, show (fld Tryd.prog 35 1).offset = 1 from by kernel_rfl, show Tryd.prog.cellsOf 3 = 1 from by kernel_rfl] at f1
  obtain ⟨n1, p1, w1, -⟩ := (opens_int (P := Tryd.prog) (t := 3) (k := .i64) (by kernel_rfl) (by kernel_rfl)) en w spare held m _ _ f1 (fun k hk => hw k (by simp only [DataW.weights, hu]; exact DataW.weights_mem_each (j := 1) (t := 3) (by kernel_rfl) (by rw [List.getElem?_map, e1]; rfl) k hk))
  have f2 := hf 2 (fld Tryd.prog 35 2) (by kernel_rfl)
  obtain ⟨y2, e2⟩ := part_some hxl (show 2 < 3 by omega)
  rw [e2, show (fld Tryd.prog 35 2).type = 3 from by kernel_rfl, show (fld Tryd.prog 35 2).offset = 2 from by kernel_rfl, show Tryd.prog.cellsOf 3 = 1 from by kernel_rfl] at f2
  obtain ⟨n2, p2, w2, -⟩ := (opens_int (P := Tryd.prog) (t := 3) (k := .i64) (by kernel_rfl) (by kernel_rfl)) en w spare held m _ _ f2 (fun k hk => hw k (by simp only [DataW.weights, hu]; exact DataW.weights_mem_each (j := 2) (t := 3) (by kernel_rfl) (by rw [List.getElem?_map, e2]; rfl) k hk))
  have q0 : cs.drop 0 = (encI .i64) n0 ++ cs.drop 1 := by rw [← show (cs.drop 0).take 1 = (encI .i64) n0 from p0, show 1 = 0 + 1 from rfl, ← List.drop_drop, List.take_append_drop]
  have q1 : cs.drop 1 = (encI .i64) n1 ++ cs.drop 2 := by rw [← show (cs.drop 1).take 1 = (encI .i64) n1 from p1, show 2 = 1 + 1 from rfl, ← List.drop_drop, List.take_append_drop]
  have q2 : cs.drop 2 = (encI .i64) n2 ++ cs.drop 3 := by rw [← show (cs.drop 2).take 1 = (encI .i64) n2 from p2, show 3 = 2 + 1 from rfl, ← List.drop_drop, List.take_append_drop]
  have hc : cs = enc_weirref05_Fault ⟨n0, n1, n2⟩ := by
    have h0 : cs = cs.drop 0 := rfl
    rw [h0, q0, q1, q2, List.drop_of_length_le (Nat.le_of_eq hlN)]
    simp [enc_weirref05_Fault, encI, encB, encS]
  exact ⟨_, hc, ⟨w0, w1, w2⟩, hl⟩
end Go.Proofs.YtlapbgeklhinmaaDoor.K
