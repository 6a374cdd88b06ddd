import Derived.Test.YtjbhgahbaeoinaaDoorNL
import Derived.Test.YtjbhgahbaeoinaaDoorE
set_option linter.unusedVariables false
set_option linter.unusedSimpArgs false
namespace Go.Proofs.YtjbhgahbaeoinaaDoor.K
open Go Go.RowKit Go.ChangeShapes Go.WideShapes Go.ChangeAt
def ok_api_Final (y : api_Final) : Prop := (Lit.int .i64 y.N).wf = true ∧ (∀ i : Int, 0 ≤ i → i < (48 : Nat) → (Lit.int .i64 (vget y.V i)).wf = true)
theorem opens_api_Final : Opens Tryd.prog 24 (flat enc_api_Final) ok_api_Final := by
  intro H en w spare held fuel cs x h hw
  have hu : Tryd.prog.underlying 24 = some (.struct (Tryd.prog.fieldsOf 24)) := by kernel_rfl
  have hn : (Tryd.prog.fieldsOf 24).size = 2 := by kernel_rfl
  obtain ⟨xs, m, -, rfl, hl, hxl, hf⟩ := DataW.trod_struct hu h
  rw [hn] at hxl
  have hlN : cs.length = 49 := by rw [hl]; kernel_rfl
  have f0 := hf 0 (fld Tryd.prog 24 0) (by kernel_rfl)
  obtain ⟨y0, e0⟩ := part_some hxl (show 0 < 2 by omega)
  rw [e0, show (fld Tryd.prog 24 0).type = 3 from by kernel_rfl, show (fld Tryd.prog 24 0).offset = 0 from by kernel_rfl, show Tryd.prog.cellsOf 3 = 1 from by kernel_rfl] at f0
  obtain ⟨n0, p0, w0, -⟩ := (opens_int (P := Tryd.prog) (t := 3) (k := .i64) (by kernel_rfl) (by kernel_rfl)) en w spare held m _ _ f0 (fun k hk => hw k (by simp only [DataW.weights, hu]; exact DataW.weights_mem_each (j := 0) (t := 3) (by kernel_rfl) (by rw [List.getElem?_map, e0]; rfl) k hk))
  have f1 := hf 1 (fld Tryd.prog 24 1) (by kernel_rfl)
  obtain ⟨y1, e1⟩ := part_some hxl (show 1 < 2 by omega)
  rw [e1, show (fld Tryd.prog 24 1).type = 22 from by kernel_rfl, show (fld Tryd.prog 24 1).offset = 1 from by kernel_rfl, show Tryd.prog.cellsOf 22 = 48 from by kernel_rfl] at f1
  obtain ⟨n1, p1, w1, -⟩ := (opens_arr (P := Tryd.prog) (t := 22) (e := 2) (n := 48) (sz := 1) (opens_int (P := Tryd.prog) (t := 2) (k := .i64) (by kernel_rfl) (by kernel_rfl)) (by kernel_rfl) (by kernel_rfl) (by kernel_rfl) (len_encI .i64)) en w spare held m _ _ f1 (fun k hk => hw k (by simp only [DataW.weights, hu]; exact DataW.weights_mem_each (j := 1) (t := 22) (by kernel_rfl) (by rw [List.getElem?_map, e1]; rfl) k hk))
  have q0 : cs.drop 0 = (encI .i64) n0 ++ cs.drop 1 := by rw [← show (cs.drop 0).take 1 = (encI .i64) n0 from p0, show 1 = 0 + 1 from rfl, ← List.drop_drop, List.take_append_drop]
  have q1 : cs.drop 1 = (encV (encI .i64)) n1 ++ cs.drop 49 := by rw [← show (cs.drop 1).take 48 = (encV (encI .i64)) n1 from p1, show 49 = 1 + 48 from rfl, ← List.drop_drop, List.take_append_drop]
  have hc : cs = enc_api_Final ⟨n0, n1⟩ := by
    have h0 : cs = cs.drop 0 := rfl
    rw [h0, q0, q1, List.drop_of_length_le (Nat.le_of_eq hlN)]
    simp [enc_api_Final, encI, encB, encS]
  exact ⟨_, hc, ⟨w0, w1⟩, hl⟩
def ok_api_Ref (y : api_Ref) : Prop := (Lit.int .i64 y.Thread).wf = true ∧ y.Name.size ≤ reachBytes
theorem opens_api_Ref : Opens Tryd.prog 51 (flat enc_api_Ref) ok_api_Ref := by
  intro H en w spare held fuel cs x h hw
  have hu : Tryd.prog.underlying 51 = some (.struct (Tryd.prog.fieldsOf 51)) := by kernel_rfl
  have hn : (Tryd.prog.fieldsOf 51).size = 2 := by kernel_rfl
  obtain ⟨xs, m, -, rfl, hl, hxl, hf⟩ := DataW.trod_struct hu h
  rw [hn] at hxl
  have hlN : cs.length = 2 := by rw [hl]; kernel_rfl
  have f0 := hf 0 (fld Tryd.prog 51 0) (by kernel_rfl)
  obtain ⟨y0, e0⟩ := part_some hxl (show 0 < 2 by omega)
  rw [e0, show (fld Tryd.prog 51 0).type = 3 from by kernel_rfl, show (fld Tryd.prog 51 0).offset = 0 from by kernel_rfl, show Tryd.prog.cellsOf 3 = 1 from by kernel_rfl] at f0
  obtain ⟨n0, p0, w0, -⟩ := (opens_int (P := Tryd.prog) (t := 3) (k := .i64) (by kernel_rfl) (by kernel_rfl)) en w spare held m _ _ f0 (fun k hk => hw k (by simp only [DataW.weights, hu]; exact DataW.weights_mem_each (j := 0) (t := 3) (by kernel_rfl) (by rw [List.getElem?_map, e0]; rfl) k hk))
  have f1 := hf 1 (fld Tryd.prog 51 1) (by kernel_rfl)
  obtain ⟨y1, e1⟩ := part_some hxl (show 1 < 2 by omega)
  rw [e1, show (fld Tryd.prog 51 1).type = 9 from by kernel_rfl, show (fld Tryd.prog 51 1).offset = 1 from by kernel_rfl, show Tryd.prog.cellsOf 9 = 1 from by kernel_rfl] at f1
  obtain ⟨n1, p1, w1, -⟩ := (opens_str (P := Tryd.prog) (t := 9) (by kernel_rfl) (by kernel_rfl)) en w spare held m _ _ f1 (fun k hk => hw k (by simp only [DataW.weights, hu]; exact DataW.weights_mem_each (j := 1) (t := 9) (by kernel_rfl) (by rw [List.getElem?_map, e1]; rfl) k hk))
  have q0 : cs.drop 0 = (encI .i64) n0 ++ cs.drop 1 := by rw [← show (cs.drop 0).take 1 = (encI .i64) n0 from p0, show 1 = 0 + 1 from rfl, ← List.drop_drop, List.take_append_drop]
  have q1 : cs.drop 1 = encS n1 ++ cs.drop 2 := by rw [← show (cs.drop 1).take 1 = encS n1 from p1, show 2 = 1 + 1 from rfl, ← List.drop_drop, List.take_append_drop]
  have hc : cs = enc_api_Ref ⟨n0, n1⟩ := by
    have h0 : cs = cs.drop 0 := rfl
    rw [h0, q0, q1, List.drop_of_length_le (Nat.le_of_eq hlN)]
    simp [enc_api_Ref, encI, encB, encS]
  exact ⟨_, hc, ⟨w0, w1⟩, hl⟩
end Go.Proofs.YtjbhgahbaeoinaaDoor.K
