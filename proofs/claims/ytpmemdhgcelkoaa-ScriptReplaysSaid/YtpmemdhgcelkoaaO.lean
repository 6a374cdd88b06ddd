import Derived.Test.YtpmemdhgcelkoaaNL
import Derived.Test.YtpmemdhgcelkoaaE
set_option linter.unusedVariables false
set_option linter.unusedSimpArgs false
namespace Go.Proofs.Ytpmemdhgcelkoaa.K
open Go Go.RowKit Go.ChangeShapes Go.WideShapes Go.ChangeAt
def ok_weirlaw15_Graph (y : weirlaw15_Graph) : Prop := (y.To.length * 24 ≤ bnd ∧ ∀ x ∈ y.To, (x.length * 8 ≤ bnd ∧ ∀ x' ∈ x, (Lit.int .i64 x').wf = true)) ∧ (Lit.int .u64 y.Ends).wf = true ∧ True ∧ (Lit.int .i64 y.Holes).wf = true
theorem opens_weirlaw15_Graph : Opens Try.prog 25 rep_weirlaw15_Graph ok_weirlaw15_Graph := by
  intro H en w spare held fuel cs x h hw
  have hu : Try.prog.underlying 25 = some (.struct (Try.prog.fieldsOf 25)) := by kernel_rfl
  have hn : (Try.prog.fieldsOf 25).size = 4 := by kernel_rfl
  obtain ⟨xs, m, -, rfl, hl, hxl, hf⟩ := DataW.trod_struct hu h
  rw [hn] at hxl
  have hlN : cs.length = 4 := by rw [hl]; kernel_rfl
  have f0 := hf 0 (fld Try.prog 25 0) (by kernel_rfl)
  obtain ⟨y0, e0⟩ := part_some hxl (show 0 < 4 by omega)
  rw [e0, show (fld Try.prog 25 0).type = 22 from by kernel_rfl, show (fld Try.prog 25 0).offset = 0 from by kernel_rfl, show Try.prog.cellsOf 22 = 1 from by kernel_rfl] at f0
  obtain ⟨n0, p0, w0, -⟩ := (opens_sl (P := Try.prog) (t := 22) (e := 54) (sz := 1) (bytes := 24) (opens_sl (P := Try.prog) (t := 54) (e := 3) (sz := 1) (bytes := 8) (opens_int (P := Try.prog) (t := 3) (k := .i64) (by kernel_rfl) (by kernel_rfl)) (by kernel_rfl) (by kernel_rfl) (by decide) (by kernel_rfl) (by kernel_rfl)) (by kernel_rfl) (by kernel_rfl) (by decide) (by kernel_rfl) (by kernel_rfl)) en w spare held m _ _ f0 (fun k hk => hw k (by simp only [DataW.weights, hu]; exact DataW.weights_mem_each (j := 0) (t := 22) (by kernel_rfl) (by rw [List.getElem?_map, e0]; rfl) k hk))
  have f1 := hf 1 (fld Try.prog 25 1) (by kernel_rfl)
  obtain ⟨y1, e1⟩ := part_some hxl (show 1 < 4 by omega)
  rw [e1, show (fld Try.prog 25 1).type = 23 from by kernel_rfl, show (fld Try.prog 25 1).offset = 1 from by kernel_rfl, show Try.prog.cellsOf 23 = 1 from by kernel_rfl] at f1
  obtain ⟨n1, p1, w1, -⟩ := (opens_int (P := Try.prog) (t := 23) (k := .u64) (by kernel_rfl) (by kernel_rfl)) en w spare held m _ _ f1 (fun k hk => hw k (by simp only [DataW.weights, hu]; exact DataW.weights_mem_each (j := 1) (t := 23) (by kernel_rfl) (by rw [List.getElem?_map, e1]; rfl) k hk))
  have f2 := hf 2 (fld Try.prog 25 2) (by kernel_rfl)
  obtain ⟨y2, e2⟩ := part_some hxl (show 2 < 4 by omega)
  rw [e2, show (fld Try.prog 25 2).type = 4 from by kernel_rfl, show (fld Try.prog 25 2).offset = 2 from by kernel_rfl, show Try.prog.cellsOf 4 = 1 from by kernel_rfl] at f2
  obtain ⟨n2, p2, w2, -⟩ := (opens_bool (P := Try.prog) (t := 4) (by kernel_rfl) (by kernel_rfl)) en w spare held m _ _ f2 (fun k hk => hw k (by simp only [DataW.weights, hu]; exact DataW.weights_mem_each (j := 2) (t := 4) (by kernel_rfl) (by rw [List.getElem?_map, e2]; rfl) k hk))
  have f3 := hf 3 (fld Try.prog 25 3) (by kernel_rfl)
  obtain ⟨y3, e3⟩ := part_some hxl (show 3 < 4 by omega)
  rw [e3, show (fld Try.prog 25 3).type = 3 from by kernel_rfl, show (fld Try.prog 25 3).offset = 3 from by kernel_rfl, show Try.prog.cellsOf 3 = 1 from by kernel_rfl] at f3
  obtain ⟨n3, p3, w3, -⟩ := (opens_int (P := Try.prog) (t := 3) (k := .i64) (by kernel_rfl) (by kernel_rfl)) en w spare held m _ _ f3 (fun k hk => hw k (by simp only [DataW.weights, hu]; exact DataW.weights_mem_each (j := 3) (t := 3) (by kernel_rfl) (by rw [List.getElem?_map, e3]; rfl) k hk))
  obtain ⟨A0, c0, r0, s0⟩ := p0
  have q0 : cs.drop 0 = [.slice A0 n0.length c0] ++ cs.drop 1 := by rw [← show (cs.drop 0).take 1 = [.slice A0 n0.length c0] from r0, show 1 = 0 + 1 from rfl, ← List.drop_drop, List.take_append_drop]
  have q1 : cs.drop 1 = (encI .u64) n1 ++ cs.drop 2 := by rw [← show (cs.drop 1).take 1 = (encI .u64) n1 from p1, show 2 = 1 + 1 from rfl, ← List.drop_drop, List.take_append_drop]
  have q2 : cs.drop 2 = encB n2 ++ cs.drop 3 := by rw [← show (cs.drop 2).take 1 = encB n2 from p2, show 3 = 2 + 1 from rfl, ← List.drop_drop, List.take_append_drop]
  have q3 : cs.drop 3 = (encI .i64) n3 ++ cs.drop 4 := by rw [← show (cs.drop 3).take 1 = (encI .i64) n3 from p3, show 4 = 3 + 1 from rfl, ← List.drop_drop, List.take_append_drop]
  have hc := (show cs = cs.drop 0 from rfl)
  rw [q0, q1, q2, q3, List.drop_of_length_le (Nat.le_of_eq hlN)] at hc
  refine ⟨⟨n0, n1, n2, n3⟩, ⟨A0, c0, ?_, s0⟩, ⟨w0, w1, w2, w3⟩, hl⟩
  refine hc.trans ?_
  simp [encI, encB, encS]
def ok_api_Pick (y : api_Pick) : Prop := (Lit.int .i64 y.Thread).wf = true ∧ (Lit.int .i64 y.Kind).wf = true ∧ (Lit.int .i64 y.Loc).wf = true
theorem opens_api_Pick : Opens Try.prog 39 (flat enc_api_Pick) ok_api_Pick := by
  intro H en w spare held fuel cs x h hw
  have hu : Try.prog.underlying 39 = some (.struct (Try.prog.fieldsOf 39)) := by kernel_rfl
  have hn : (Try.prog.fieldsOf 39).size = 3 := by kernel_rfl
  obtain ⟨xs, m, -, rfl, hl, hxl, hf⟩ := DataW.trod_struct hu h
  rw [hn] at hxl
  have hlN : cs.length = 3 := by rw [hl]; kernel_rfl
  have f0 := hf 0 (fld Try.prog 39 0) (by kernel_rfl)
  obtain ⟨y0, e0⟩ := part_some hxl (show 0 < 3 by omega)
  rw [e0, show (fld Try.prog 39 0).type = 3 from by kernel_rfl, show (fld Try.prog 39 0).offset = 0 from by kernel_rfl, show Try.prog.cellsOf 3 = 1 from by kernel_rfl] at f0
  obtain ⟨n0, p0, w0, -⟩ := (opens_int (P := Try.prog) (t := 3) (k := .i64) (by kernel_rfl) (by kernel_rfl)) en w spare held m _ _ f0 (fun k hk => hw k (by simp only [DataW.weights, hu]; exact DataW.weights_mem_each (j := 0) (t := 3) (by kernel_rfl) (by rw [List.getElem?_map, e0]; rfl) k hk))
  have f1 := hf 1 (fld Try.prog 39 1) (by kernel_rfl)
  obtain ⟨y1, e1⟩ := part_some hxl (show 1 < 3 by omega)
  rw [e1, show (fld Try.prog 39 1).type = 3 from by kernel_rfl, show (fld Try.prog 39 1).offset = 1 from by kernel_rfl, show Try.prog.cellsOf 3 = 1 from by kernel_rfl] at f1
  obtain ⟨n1, p1, w1, -⟩ := (opens_int (P := Try.prog) (t := 3) (k := .i64) (by kernel_rfl) (by kernel_rfl)) en w spare held m _ _ f1 (fun k hk => hw k (by simp only [DataW.weights, hu]; exact DataW.weights_mem_each (j := 1) (t := 3) (by kernel_rfl) (by rw [List.getElem?_map, e1]; rfl) k hk))
  have f2 := hf 2 (fld Try.prog 39 2) (by kernel_rfl)
  obtain ⟨y2, e2⟩ := part_some hxl (show 2 < 3 by omega)
  rw [e2, show (fld Try.prog 39 2).type = 3 from by kernel_rfl, show (fld Try.prog 39 2).offset = 2 from by kernel_rfl, show Try.prog.cellsOf 3 = 1 from by kernel_rfl] at f2
  obtain ⟨n2, p2, w2, -⟩ := (opens_int (P := Try.prog) (t := 3) (k := .i64) (by kernel_rfl) (by kernel_rfl)) en w spare held m _ _ f2 (fun k hk => hw k (by simp only [DataW.weights, hu]; exact DataW.weights_mem_each (j := 2) (t := 3) (by kernel_rfl) (by rw [List.getElem?_map, e2]; rfl) k hk))
  have q0 : cs.drop 0 = (encI .i64) n0 ++ cs.drop 1 := by rw [← show (cs.drop 0).take 1 = (encI .i64) n0 from p0, show 1 = 0 + 1 from rfl, ← List.drop_drop, List.take_append_drop]
  have q1 : cs.drop 1 = (encI .i64) n1 ++ cs.drop 2 := by rw [← show (cs.drop 1).take 1 = (encI .i64) n1 from p1, show 2 = 1 + 1 from rfl, ← List.drop_drop, List.take_append_drop]
  have q2 : cs.drop 2 = (encI .i64) n2 ++ cs.drop 3 := by rw [← show (cs.drop 2).take 1 = (encI .i64) n2 from p2, show 3 = 2 + 1 from rfl, ← List.drop_drop, List.take_append_drop]
  have hc : cs = enc_api_Pick ⟨n0, n1, n2⟩ := by
    have h0 : cs = cs.drop 0 := rfl
    rw [h0, q0, q1, q2, List.drop_of_length_le (Nat.le_of_eq hlN)]
    simp [enc_api_Pick, encI, encB, encS]
  exact ⟨_, hc, ⟨w0, w1, w2⟩, hl⟩
def ok_api_Final (y : api_Final) : Prop := (Lit.int .i64 y.N).wf = true ∧ (∀ i : Int, 0 ≤ i → i < (48 : Nat) → (Lit.int .i64 (vget y.V i)).wf = true)
theorem opens_api_Final : Opens Try.prog 46 (flat enc_api_Final) ok_api_Final := by
  intro H en w spare held fuel cs x h hw
  have hu : Try.prog.underlying 46 = some (.struct (Try.prog.fieldsOf 46)) := by kernel_rfl
  have hn : (Try.prog.fieldsOf 46).size = 2 := by kernel_rfl
  obtain ⟨xs, m, -, rfl, hl, hxl, hf⟩ := DataW.trod_struct hu h
  rw [hn] at hxl
  have hlN : cs.length = 49 := by rw [hl]; kernel_rfl
  have f0 := hf 0 (fld Try.prog 46 0) (by kernel_rfl)
  obtain ⟨y0, e0⟩ := part_some hxl (show 0 < 2 by omega)
  rw [e0, show (fld Try.prog 46 0).type = 3 from by kernel_rfl, show (fld Try.prog 46 0).offset = 0 from by kernel_rfl, show Try.prog.cellsOf 3 = 1 from by kernel_rfl] at f0
  obtain ⟨n0, p0, w0, -⟩ := (opens_int (P := Try.prog) (t := 3) (k := .i64) (by kernel_rfl) (by kernel_rfl)) en w spare held m _ _ f0 (fun k hk => hw k (by simp only [DataW.weights, hu]; exact DataW.weights_mem_each (j := 0) (t := 3) (by kernel_rfl) (by rw [List.getElem?_map, e0]; rfl) k hk))
  have f1 := hf 1 (fld Try.prog 46 1) (by kernel_rfl)
  obtain ⟨y1, e1⟩ := part_some hxl (show 1 < 2 by omega)
  rw [e1, show (fld Try.prog 46 1).type = 44 from by kernel_rfl, show (fld Try.prog 46 1).offset = 1 from by kernel_rfl, show Try.prog.cellsOf 44 = 48 from by kernel_rfl] at f1
  obtain ⟨n1, p1, w1, -⟩ := (opens_arr (P := Try.prog) (t := 44) (e := 2) (n := 48) (sz := 1) (opens_int (P := Try.prog) (t := 2) (k := .i64) (by kernel_rfl) (by kernel_rfl)) (by kernel_rfl) (by kernel_rfl) (by kernel_rfl) (len_encI .i64)) en w spare held m _ _ f1 (fun k hk => hw k (by simp only [DataW.weights, hu]; exact DataW.weights_mem_each (j := 1) (t := 44) (by kernel_rfl) (by rw [List.getElem?_map, e1]; rfl) k hk))
  have q0 : cs.drop 0 = (encI .i64) n0 ++ cs.drop 1 := by rw [← show (cs.drop 0).take 1 = (encI .i64) n0 from p0, show 1 = 0 + 1 from rfl, ← List.drop_drop, List.take_append_drop]
  have q1 : cs.drop 1 = (encV (encI .i64)) n1 ++ cs.drop 49 := by rw [← show (cs.drop 1).take 48 = (encV (encI .i64)) n1 from p1, show 49 = 1 + 48 from rfl, ← List.drop_drop, List.take_append_drop]
  have hc : cs = enc_api_Final ⟨n0, n1⟩ := by
    have h0 : cs = cs.drop 0 := rfl
    rw [h0, q0, q1, List.drop_of_length_le (Nat.le_of_eq hlN)]
    simp [enc_api_Final, encI, encB, encS]
  exact ⟨_, hc, ⟨w0, w1⟩, hl⟩
end Go.Proofs.Ytpmemdhgcelkoaa.K
