import Derived.Test.YtboejepakdnbgaaGreatDoorNL
import Derived.Test.YtboejepakdnbgaaGreatDoorE
set_option linter.unusedVariables false
set_option linter.unusedSimpArgs false
namespace Go.Proofs.YtboejepakdnbgaaGreatDoor.K
open Go Go.RowKit Go.ChangeShapes Go.WideShapes Go.ChangeAt
def ok_api_Ref (y : api_Ref) : Prop := (Lit.int .i64 y.Thread).wf = true ∧ y.Name.size ≤ bnd
theorem opens_api_Ref : Opens Tryz.prog 66 (flat enc_api_Ref) ok_api_Ref := by
  intro H en w spare held fuel cs x h hw
  have hu : Tryz.prog.underlying 66 = some (.struct (Tryz.prog.fieldsOf 66)) := by kernel_rfl
  have hn : (Tryz.prog.fieldsOf 66).size = 2 := by kernel_rfl
  obtain ⟨xs, m, -, rfl, hl, hxl, hf⟩ := DataW.trod_struct hu h
  rw [hn] at hxl
  have hlN : cs.length = 2 := by rw [hl]; kernel_rfl
  have f0 := hf 0 (fld Tryz.prog 66 0) (by kernel_rfl)
  obtain ⟨y0, e0⟩ := part_some hxl (show 0 < 2 by omega)
  rw [e0, show (fld Tryz.prog 66 0).type = 3 from by kernel_rfl, show (fld Tryz.prog 66 0).offset = 0 from by kernel_rfl, show Tryz.prog.cellsOf 3 = 1 from by kernel_rfl] at f0
  obtain ⟨n0, p0, w0, -⟩ := (opens_int (P := Tryz.prog) (t := 3) (k := .i64) (by kernel_rfl) (by kernel_rfl)) en w spare held m _ _ f0 (fun k hk => hw k (by simp only [DataW.weights, hu]; exact DataW.weights_mem_each (j := 0) (t := 3) (by kernel_rfl) (by rw [List.getElem?_map, e0]; rfl) k hk))
  have f1 := hf 1 (fld Tryz.prog 66 1) (by kernel_rfl)
  obtain ⟨y1, e1⟩ := part_some hxl (show 1 < 2 by omega)
  rw [e1, show (fld Tryz.prog 66 1).type = 9 from by kernel_rfl, show (fld Tryz.prog 66 1).offset = 1 from by kernel_rfl, show Tryz.prog.cellsOf 9 = 1 from by kernel_rfl] at f1
  obtain ⟨n1, p1, w1, -⟩ := (opens_str (P := Tryz.prog) (t := 9) (by kernel_rfl) (by kernel_rfl)) en w spare held m _ _ f1 (fun k hk => hw k (by simp only [DataW.weights, hu]; exact DataW.weights_mem_each (j := 1) (t := 9) (by kernel_rfl) (by rw [List.getElem?_map, e1]; rfl) k hk))
  have q0 : cs.drop 0 = (encI .i64) n0 ++ cs.drop 1 := by rw [← show (cs.drop 0).take 1 = (encI .i64) n0 from p0, show 1 = 0 + 1 from rfl, ← List.drop_drop, List.take_append_drop]
  have q1 : cs.drop 1 = encS n1 ++ cs.drop 2 := by rw [← show (cs.drop 1).take 1 = encS n1 from p1, show 2 = 1 + 1 from rfl, ← List.drop_drop, List.take_append_drop]
  have hc : cs = enc_api_Ref ⟨n0, n1⟩ := by
    have h0 : cs = cs.drop 0 := rfl
    rw [h0, q0, q1, List.drop_of_length_le (Nat.le_of_eq hlN)]
    simp [enc_api_Ref, encI, encB, encS]
  exact ⟨_, hc, ⟨w0, w1⟩, hl⟩
def ok_weirlaw06_Set (y : weirlaw06_Set) : Prop := (y.Refs.length * 24 ≤ bnd ∧ ∀ x ∈ y.Refs, ok_api_Ref x) ∧ (y.Values.length * 8 ≤ bnd ∧ ∀ x ∈ y.Values, (Lit.int .i64 x).wf = true) ∧ (Lit.int .i64 y.Rest).wf = true
theorem opens_weirlaw06_Set : Opens Tryz.prog 46 rep_weirlaw06_Set ok_weirlaw06_Set := by
  intro H en w spare held fuel cs x h hw
  have hu : Tryz.prog.underlying 46 = some (.struct (Tryz.prog.fieldsOf 46)) := by kernel_rfl
  have hn : (Tryz.prog.fieldsOf 46).size = 3 := by kernel_rfl
  obtain ⟨xs, m, -, rfl, hl, hxl, hf⟩ := DataW.trod_struct hu h
  rw [hn] at hxl
  have hlN : cs.length = 3 := by rw [hl]; kernel_rfl
  have f0 := hf 0 (fld Tryz.prog 46 0) (by kernel_rfl)
  obtain ⟨y0, e0⟩ := part_some hxl (show 0 < 3 by omega)
  rw [e0, show (fld Tryz.prog 46 0).type = 43 from by kernel_rfl, show (fld Tryz.prog 46 0).offset = 0 from by kernel_rfl, show Tryz.prog.cellsOf 43 = 1 from by kernel_rfl] at f0
  obtain ⟨n0, p0, w0, -⟩ := (opens_sl (P := Tryz.prog) (t := 43) (e := 66) (sz := 2) (bytes := 24) opens_api_Ref (by kernel_rfl) (by kernel_rfl) (by decide) (by kernel_rfl) (by kernel_rfl)) en w spare held m _ _ f0 (fun k hk => hw k (by simp only [DataW.weights, hu]; exact DataW.weights_mem_each (j := 0) (t := 43) (by kernel_rfl) (by rw [List.getElem?_map, e0]; rfl) k hk))
  have f1 := hf 1 (fld Tryz.prog 46 1) (by kernel_rfl)
  obtain ⟨y1, e1⟩ := part_some hxl (show 1 < 3 by omega)
  rw [e1, show (fld Tryz.prog 46 1).type = 44 from by kernel_rfl, show (fld Tryz.prog 46 1).offset = 1 from by kernel_rfl, show Tryz.prog.cellsOf 44 = 1 from by kernel_rfl] at f1
  obtain ⟨n1, p1, w1, -⟩ := (opens_sl (P := Tryz.prog) (t := 44) (e := 2) (sz := 1) (bytes := 8) (opens_int (P := Tryz.prog) (t := 2) (k := .i64) (by kernel_rfl) (by kernel_rfl)) (by kernel_rfl) (by kernel_rfl) (by decide) (by kernel_rfl) (by kernel_rfl)) en w spare held m _ _ f1 (fun k hk => hw k (by simp only [DataW.weights, hu]; exact DataW.weights_mem_each (j := 1) (t := 44) (by kernel_rfl) (by rw [List.getElem?_map, e1]; rfl) k hk))
  have f2 := hf 2 (fld Tryz.prog 46 2) (by kernel_rfl)
  obtain ⟨y2, e2⟩ := part_some hxl (show 2 < 3 by omega)
  rw [e2, show (fld Tryz.prog 46 2).type = 2 from by kernel_rfl, show (fld Tryz.prog 46 2).offset = 2 from by kernel_rfl, show Tryz.prog.cellsOf 2 = 1 from by kernel_rfl] at f2
  obtain ⟨n2, p2, w2, -⟩ := (opens_int (P := Tryz.prog) (t := 2) (k := .i64) (by kernel_rfl) (by kernel_rfl)) en w spare held m _ _ f2 (fun k hk => hw k (by simp only [DataW.weights, hu]; exact DataW.weights_mem_each (j := 2) (t := 2) (by kernel_rfl) (by rw [List.getElem?_map, e2]; rfl) k hk))
  obtain ⟨A0, c0, r0, s0⟩ := p0
  have q0 : cs.drop 0 = [.slice A0 n0.length c0] ++ cs.drop 1 := by rw [← show (cs.drop 0).take 1 = [.slice A0 n0.length c0] from r0, show 1 = 0 + 1 from rfl, ← List.drop_drop, List.take_append_drop]
  obtain ⟨A1, c1, r1, s1⟩ := p1
  have q1 : cs.drop 1 = [.slice A1 n1.length c1] ++ cs.drop 2 := by rw [← show (cs.drop 1).take 1 = [.slice A1 n1.length c1] from r1, show 2 = 1 + 1 from rfl, ← List.drop_drop, List.take_append_drop]
  have q2 : cs.drop 2 = (encI .i64) n2 ++ cs.drop 3 := by rw [← show (cs.drop 2).take 1 = (encI .i64) n2 from p2, show 3 = 2 + 1 from rfl, ← List.drop_drop, List.take_append_drop]
  have hc := (show cs = cs.drop 0 from rfl)
  rw [q0, q1, q2, List.drop_of_length_le (Nat.le_of_eq hlN)] at hc
  refine ⟨⟨n0, n1, n2⟩, ⟨A0, c0, A1, c1, ?_, s0, s1⟩, ⟨w0, w1, w2⟩, hl⟩
  refine hc.trans ?_
  simp [encI, encB, encS]
def ok_api_Node (y : api_Node) : Prop := (Lit.int .i64 y.Op).wf = true ∧ (Lit.int .i64 y.A).wf = true ∧ (Lit.int .i64 y.B).wf = true ∧ ok_api_Ref y.Ref ∧ (Lit.int .i64 y.Value).wf = true
theorem opens_api_Node : Opens Tryz.prog 68 (flat enc_api_Node) ok_api_Node := by
  intro H en w spare held fuel cs x h hw
  have hu : Tryz.prog.underlying 68 = some (.struct (Tryz.prog.fieldsOf 68)) := by kernel_rfl
  have hn : (Tryz.prog.fieldsOf 68).size = 5 := by kernel_rfl
  obtain ⟨xs, m, -, rfl, hl, hxl, hf⟩ := DataW.trod_struct hu h
  rw [hn] at hxl
  have hlN : cs.length = 6 := by rw [hl]; kernel_rfl
  have f0 := hf 0 (fld Tryz.prog 68 0) (by kernel_rfl)
  obtain ⟨y0, e0⟩ := part_some hxl (show 0 < 5 by omega)
  rw [e0, show (fld Tryz.prog 68 0).type = 3 from by kernel_rfl, show (fld Tryz.prog 68 0).offset = 0 from by kernel_rfl, show Tryz.prog.cellsOf 3 = 1 from by kernel_rfl] at f0
  obtain ⟨n0, p0, w0, -⟩ := (opens_int (P := Tryz.prog) (t := 3) (k := .i64) (by kernel_rfl) (by kernel_rfl)) en w spare held m _ _ f0 (fun k hk => hw k (by simp only [DataW.weights, hu]; exact DataW.weights_mem_each (j := 0) (t := 3) (by kernel_rfl) (by rw [List.getElem?_map, e0]; rfl) k hk))
  have f1 := hf 1 (fld Tryz.prog 68 1) (by kernel_rfl)
  obtain ⟨y1, e1⟩ := part_some hxl (show 1 < 5 by omega)
  rw [e1, show (fld Tryz.prog 68 1).type = 3 from by kernel_rfl, show (fld Tryz.prog 68 1).offset = 1 from by kernel_rfl, show Tryz.prog.cellsOf 3 = 1 from by kernel_rfl] at f1
  obtain ⟨n1, p1, w1, -⟩ := (opens_int (P := Tryz.prog) (t := 3) (k := .i64) (by kernel_rfl) (by kernel_rfl)) en w spare held m _ _ f1 (fun k hk => hw k (by simp only [DataW.weights, hu]; exact DataW.weights_mem_each (j := 1) (t := 3) (by kernel_rfl) (by rw [List.getElem?_map, e1]; rfl) k hk))
  have f2 := hf 2 (fld Tryz.prog 68 2) (by kernel_rfl)
  obtain ⟨y2, e2⟩ := part_some hxl (show 2 < 5 by omega)
  rw [e2, show (fld Tryz.prog 68 2).type = 3 from by kernel_rfl, show (fld Tryz.prog 68 2).offset = 2 from by kernel_rfl, show Tryz.prog.cellsOf 3 = 1 from by kernel_rfl] at f2
  obtain ⟨n2, p2, w2, -⟩ := (opens_int (P := Tryz.prog) (t := 3) (k := .i64) (by kernel_rfl) (by kernel_rfl)) en w spare held m _ _ f2 (fun k hk => hw k (by simp only [DataW.weights, hu]; exact DataW.weights_mem_each (j := 2) (t := 3) (by kernel_rfl) (by rw [List.getElem?_map, e2]; rfl) k hk))
  have f3 := hf 3 (fld Tryz.prog 68 3) (by kernel_rfl)
  obtain ⟨y3, e3⟩ := part_some hxl (show 3 < 5 by omega)
  rw [e3, show (fld Tryz.prog 68 3).type = 66 from by kernel_rfl, show (fld Tryz.prog 68 3).offset = 3 from by kernel_rfl, show Tryz.prog.cellsOf 66 = 2 from by kernel_rfl] at f3
  obtain ⟨n3, p3, w3, -⟩ := opens_api_Ref en w spare held m _ _ f3 (fun k hk => hw k (by simp only [DataW.weights, hu]; exact DataW.weights_mem_each (j := 3) (t := 66) (by kernel_rfl) (by rw [List.getElem?_map, e3]; rfl) k hk))
  have f4 := hf 4 (fld Tryz.prog 68 4) (by kernel_rfl)
  obtain ⟨y4, e4⟩ := part_some hxl (show 4 < 5 by omega)
  rw [e4, show (fld Tryz.prog 68 4).type = 2 from by kernel_rfl, show (fld Tryz.prog 68 4).offset = 5 from by kernel_rfl, show Tryz.prog.cellsOf 2 = 1 from by kernel_rfl] at f4
  obtain ⟨n4, p4, w4, -⟩ := (opens_int (P := Tryz.prog) (t := 2) (k := .i64) (by kernel_rfl) (by kernel_rfl)) en w spare held m _ _ f4 (fun k hk => hw k (by simp only [DataW.weights, hu]; exact DataW.weights_mem_each (j := 4) (t := 2) (by kernel_rfl) (by rw [List.getElem?_map, e4]; rfl) k hk))
  have q0 : cs.drop 0 = (encI .i64) n0 ++ cs.drop 1 := by rw [← show (cs.drop 0).take 1 = (encI .i64) n0 from p0, show 1 = 0 + 1 from rfl, ← List.drop_drop, List.take_append_drop]
  have q1 : cs.drop 1 = (encI .i64) n1 ++ cs.drop 2 := by rw [← show (cs.drop 1).take 1 = (encI .i64) n1 from p1, show 2 = 1 + 1 from rfl, ← List.drop_drop, List.take_append_drop]
  have q2 : cs.drop 2 = (encI .i64) n2 ++ cs.drop 3 := by rw [← show (cs.drop 2).take 1 = (encI .i64) n2 from p2, show 3 = 2 + 1 from rfl, ← List.drop_drop, List.take_append_drop]
  have q3 : cs.drop 3 = enc_api_Ref n3 ++ cs.drop 5 := by rw [← show (cs.drop 3).take 2 = enc_api_Ref n3 from p3, show 5 = 3 + 2 from rfl, ← List.drop_drop, List.take_append_drop]
  have q4 : cs.drop 5 = (encI .i64) n4 ++ cs.drop 6 := by rw [← show (cs.drop 5).take 1 = (encI .i64) n4 from p4, show 6 = 5 + 1 from rfl, ← List.drop_drop, List.take_append_drop]
  have hc : cs = enc_api_Node ⟨n0, n1, n2, n3, n4⟩ := by
    have h0 : cs = cs.drop 0 := rfl
    rw [h0, q0, q1, q2, q3, q4, List.drop_of_length_le (Nat.le_of_eq hlN)]
    simp [enc_api_Node, enc_api_Ref, encI, encB, encS]
  exact ⟨_, hc, ⟨w0, w1, w2, w3, w4⟩, hl⟩
end Go.Proofs.YtboejepakdnbgaaGreatDoor.K
