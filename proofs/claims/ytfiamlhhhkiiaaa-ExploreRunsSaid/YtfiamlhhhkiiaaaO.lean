import Derived.Test.YtfiamlhhhkiiaaaNL
import Derived.Test.YtfiamlhhhkiiaaaE
set_option linter.unusedVariables false
set_option linter.unusedSimpArgs false
namespace Go.Proofs.Ytfiamlhhhkiiaaa.K
open Go Go.RowKit Go.ChangeShapes Go.WideShapes Go.ChangeAt
def ok_weirlaw14_Net (y : weirlaw14_Net) : Prop := (y.Next.length * 24 ≤ bnd ∧ ∀ x ∈ y.Next, (x.length * 8 ≤ bnd ∧ ∀ x' ∈ x, (Lit.int .i64 x').wf = true)) ∧ (y.End.length * 1 ≤ bnd ∧ ∀ x ∈ y.End, True) ∧ (y.Value.length * 8 ≤ bnd ∧ ∀ x ∈ y.Value, (Lit.int .i64 x).wf = true) ∧ (Lit.int .i64 y.Start).wf = true
theorem opens_weirlaw14_Net : Opens Try.prog 26 rep_weirlaw14_Net ok_weirlaw14_Net := by
  intro H en w spare held fuel cs x h hw
  have hu : Try.prog.underlying 26 = some (.struct (Try.prog.fieldsOf 26)) := by kernel_rfl
  have hn : (Try.prog.fieldsOf 26).size = 4 := by kernel_rfl
  obtain ⟨xs, m, -, rfl, hl, hxl, hf⟩ := DataW.trod_struct hu h
  rw [hn] at hxl
  have hlN : cs.length = 4 := by rw [hl]; kernel_rfl
  have f0 := hf 0 (fld Try.prog 26 0) (by kernel_rfl)
  obtain ⟨y0, e0⟩ := part_some hxl (show 0 < 4 by omega)
  rw [e0, show (fld Try.prog 26 0).type = 22 from by kernel_rfl, show (fld Try.prog 26 0).offset = 0 from by kernel_rfl, show Try.prog.cellsOf 22 = 1 from by kernel_rfl] at f0
  obtain ⟨n0, p0, w0, -⟩ := (opens_sl (P := Try.prog) (t := 22) (e := 37) (sz := 1) (bytes := 24) (opens_sl (P := Try.prog) (t := 37) (e := 3) (sz := 1) (bytes := 8) (opens_int (P := Try.prog) (t := 3) (k := .i64) (by kernel_rfl) (by kernel_rfl)) (by kernel_rfl) (by kernel_rfl) (by decide) (by kernel_rfl) (by kernel_rfl)) (by kernel_rfl) (by kernel_rfl) (by decide) (by kernel_rfl) (by kernel_rfl)) en w spare held m _ _ f0 (fun k hk => hw k (by simp only [DataW.weights, hu]; exact DataW.weights_mem_each (j := 0) (t := 22) (by kernel_rfl) (by rw [List.getElem?_map, e0]; rfl) k hk))
  have f1 := hf 1 (fld Try.prog 26 1) (by kernel_rfl)
  obtain ⟨y1, e1⟩ := part_some hxl (show 1 < 4 by omega)
  rw [e1, show (fld Try.prog 26 1).type = 23 from by kernel_rfl, show (fld Try.prog 26 1).offset = 1 from by kernel_rfl, show Try.prog.cellsOf 23 = 1 from by kernel_rfl] at f1
  obtain ⟨n1, p1, w1, -⟩ := (opens_sl (P := Try.prog) (t := 23) (e := 4) (sz := 1) (bytes := 1) (opens_bool (P := Try.prog) (t := 4) (by kernel_rfl) (by kernel_rfl)) (by kernel_rfl) (by kernel_rfl) (by decide) (by kernel_rfl) (by kernel_rfl)) en w spare held m _ _ f1 (fun k hk => hw k (by simp only [DataW.weights, hu]; exact DataW.weights_mem_each (j := 1) (t := 23) (by kernel_rfl) (by rw [List.getElem?_map, e1]; rfl) k hk))
  have f2 := hf 2 (fld Try.prog 26 2) (by kernel_rfl)
  obtain ⟨y2, e2⟩ := part_some hxl (show 2 < 4 by omega)
  rw [e2, show (fld Try.prog 26 2).type = 24 from by kernel_rfl, show (fld Try.prog 26 2).offset = 2 from by kernel_rfl, show Try.prog.cellsOf 24 = 1 from by kernel_rfl] at f2
  obtain ⟨n2, p2, w2, -⟩ := (opens_sl (P := Try.prog) (t := 24) (e := 2) (sz := 1) (bytes := 8) (opens_int (P := Try.prog) (t := 2) (k := .i64) (by kernel_rfl) (by kernel_rfl)) (by kernel_rfl) (by kernel_rfl) (by decide) (by kernel_rfl) (by kernel_rfl)) en w spare held m _ _ f2 (fun k hk => hw k (by simp only [DataW.weights, hu]; exact DataW.weights_mem_each (j := 2) (t := 24) (by kernel_rfl) (by rw [List.getElem?_map, e2]; rfl) k hk))
  have f3 := hf 3 (fld Try.prog 26 3) (by kernel_rfl)
  obtain ⟨y3, e3⟩ := part_some hxl (show 3 < 4 by omega)
  rw [e3, show (fld Try.prog 26 3).type = 3 from by kernel_rfl, show (fld Try.prog 26 3).offset = 3 from by kernel_rfl, show Try.prog.cellsOf 3 = 1 from by kernel_rfl] at f3
  obtain ⟨n3, p3, w3, -⟩ := (opens_int (P := Try.prog) (t := 3) (k := .i64) (by kernel_rfl) (by kernel_rfl)) en w spare held m _ _ f3 (fun k hk => hw k (by simp only [DataW.weights, hu]; exact DataW.weights_mem_each (j := 3) (t := 3) (by kernel_rfl) (by rw [List.getElem?_map, e3]; rfl) k hk))
  obtain ⟨A0, c0, r0, s0⟩ := p0
  have q0 : cs.drop 0 = [.slice A0 n0.length c0] ++ cs.drop 1 := by rw [← show (cs.drop 0).take 1 = [.slice A0 n0.length c0] from r0, show 1 = 0 + 1 from rfl, ← List.drop_drop, List.take_append_drop]
  obtain ⟨A1, c1, r1, s1⟩ := p1
  have q1 : cs.drop 1 = [.slice A1 n1.length c1] ++ cs.drop 2 := by rw [← show (cs.drop 1).take 1 = [.slice A1 n1.length c1] from r1, show 2 = 1 + 1 from rfl, ← List.drop_drop, List.take_append_drop]
  obtain ⟨A2, c2, r2, s2⟩ := p2
  have q2 : cs.drop 2 = [.slice A2 n2.length c2] ++ cs.drop 3 := by rw [← show (cs.drop 2).take 1 = [.slice A2 n2.length c2] from r2, show 3 = 2 + 1 from rfl, ← List.drop_drop, List.take_append_drop]
  have q3 : cs.drop 3 = (encI .i64) n3 ++ cs.drop 4 := by rw [← show (cs.drop 3).take 1 = (encI .i64) n3 from p3, show 4 = 3 + 1 from rfl, ← List.drop_drop, List.take_append_drop]
  have hc := (show cs = cs.drop 0 from rfl)
  rw [q0, q1, q2, q3, List.drop_of_length_le (Nat.le_of_eq hlN)] at hc
  refine ⟨⟨n0, n1, n2, n3⟩, ⟨A0, c0, A1, c1, A2, c2, ?_, s0, s1, s2⟩, ⟨w0, w1, w2, w3⟩, hl⟩
  refine hc.trans ?_
  simp [encI, encB, encS]
def ok_api_Tally (y : api_Tally) : Prop := (Lit.int .i64 y.States).wf = true ∧ (Lit.int .i64 y.Moves).wf = true ∧ (Lit.int .i64 y.Ends).wf = true ∧ (Lit.int .i64 y.Stuck).wf = true
theorem opens_api_Tally : Opens Try.prog 70 (flat enc_api_Tally) ok_api_Tally := by
  intro H en w spare held fuel cs x h hw
  have hu : Try.prog.underlying 70 = some (.struct (Try.prog.fieldsOf 70)) := by kernel_rfl
  have hn : (Try.prog.fieldsOf 70).size = 4 := by kernel_rfl
  obtain ⟨xs, m, -, rfl, hl, hxl, hf⟩ := DataW.trod_struct hu h
  rw [hn] at hxl
  have hlN : cs.length = 4 := by rw [hl]; kernel_rfl
  have f0 := hf 0 (fld Try.prog 70 0) (by kernel_rfl)
  obtain ⟨y0, e0⟩ := part_some hxl (show 0 < 4 by omega)
  rw [e0, show (fld Try.prog 70 0).type = 3 from by kernel_rfl, show (fld Try.prog 70 0).offset = 0 from by kernel_rfl, show Try.prog.cellsOf 3 = 1 from by kernel_rfl] at f0
  obtain ⟨n0, p0, w0, -⟩ := (opens_int (P := Try.prog) (t := 3) (k := .i64) (by kernel_rfl) (by kernel_rfl)) en w spare held m _ _ f0 (fun k hk => hw k (by simp only [DataW.weights, hu]; exact DataW.weights_mem_each (j := 0) (t := 3) (by kernel_rfl) (by rw [List.getElem?_map, e0]; rfl) k hk))
  have f1 := hf 1 (fld Try.prog 70 1) (by kernel_rfl)
  obtain ⟨y1, e1⟩ := part_some hxl (show 1 < 4 by omega)
  rw [e1, show (fld Try.prog 70 1).type = 3 from by kernel_rfl, show (fld Try.prog 70 1).offset = 1 from by kernel_rfl, show Try.prog.cellsOf 3 = 1 from by kernel_rfl] at f1
  obtain ⟨n1, p1, w1, -⟩ := (opens_int (P := Try.prog) (t := 3) (k := .i64) (by kernel_rfl) (by kernel_rfl)) en w spare held m _ _ f1 (fun k hk => hw k (by simp only [DataW.weights, hu]; exact DataW.weights_mem_each (j := 1) (t := 3) (by kernel_rfl) (by rw [List.getElem?_map, e1]; rfl) k hk))
  have f2 := hf 2 (fld Try.prog 70 2) (by kernel_rfl)
  obtain ⟨y2, e2⟩ := part_some hxl (show 2 < 4 by omega)
  rw [e2, show (fld Try.prog 70 2).type = 3 from by kernel_rfl, show (fld Try.prog 70 2).offset = 2 from by kernel_rfl, show Try.prog.cellsOf 3 = 1 from by kernel_rfl] at f2
  obtain ⟨n2, p2, w2, -⟩ := (opens_int (P := Try.prog) (t := 3) (k := .i64) (by kernel_rfl) (by kernel_rfl)) en w spare held m _ _ f2 (fun k hk => hw k (by simp only [DataW.weights, hu]; exact DataW.weights_mem_each (j := 2) (t := 3) (by kernel_rfl) (by rw [List.getElem?_map, e2]; rfl) k hk))
  have f3 := hf 3 (fld Try.prog 70 3) (by kernel_rfl)
  obtain ⟨y3, e3⟩ := part_some hxl (show 3 < 4 by omega)
  rw [e3, show (fld Try.prog 70 3).type = 3 from by kernel_rfl, show (fld Try.prog 70 3).offset = 3 from by kernel_rfl, show Try.prog.cellsOf 3 = 1 from by kernel_rfl] at f3
  obtain ⟨n3, p3, w3, -⟩ := (opens_int (P := Try.prog) (t := 3) (k := .i64) (by kernel_rfl) (by kernel_rfl)) en w spare held m _ _ f3 (fun k hk => hw k (by simp only [DataW.weights, hu]; exact DataW.weights_mem_each (j := 3) (t := 3) (by kernel_rfl) (by rw [List.getElem?_map, e3]; rfl) k hk))
  have q0 : cs.drop 0 = (encI .i64) n0 ++ cs.drop 1 := by rw [← show (cs.drop 0).take 1 = (encI .i64) n0 from p0, show 1 = 0 + 1 from rfl, ← List.drop_drop, List.take_append_drop]
  have q1 : cs.drop 1 = (encI .i64) n1 ++ cs.drop 2 := by rw [← show (cs.drop 1).take 1 = (encI .i64) n1 from p1, show 2 = 1 + 1 from rfl, ← List.drop_drop, List.take_append_drop]
  have q2 : cs.drop 2 = (encI .i64) n2 ++ cs.drop 3 := by rw [← show (cs.drop 2).take 1 = (encI .i64) n2 from p2, show 3 = 2 + 1 from rfl, ← List.drop_drop, List.take_append_drop]
  have q3 : cs.drop 3 = (encI .i64) n3 ++ cs.drop 4 := by rw [← show (cs.drop 3).take 1 = (encI .i64) n3 from p3, show 4 = 3 + 1 from rfl, ← List.drop_drop, List.take_append_drop]
  have hc : cs = enc_api_Tally ⟨n0, n1, n2, n3⟩ := by
    have h0 : cs = cs.drop 0 := rfl
    rw [h0, q0, q1, q2, q3, List.drop_of_length_le (Nat.le_of_eq hlN)]
    simp [enc_api_Tally, encI, encB, encS]
  exact ⟨_, hc, ⟨w0, w1, w2, w3⟩, hl⟩
def ok_api_Final (y : api_Final) : Prop := (Lit.int .i64 y.N).wf = true ∧ (∀ i : Int, 0 ≤ i → i < (48 : Nat) → (Lit.int .i64 (vget y.V i)).wf = true)
theorem opens_api_Final : Opens Try.prog 84 (flat enc_api_Final) ok_api_Final := by
  intro H en w spare held fuel cs x h hw
  have hu : Try.prog.underlying 84 = some (.struct (Try.prog.fieldsOf 84)) := by kernel_rfl
  have hn : (Try.prog.fieldsOf 84).size = 2 := by kernel_rfl
  obtain ⟨xs, m, -, rfl, hl, hxl, hf⟩ := DataW.trod_struct hu h
  rw [hn] at hxl
  have hlN : cs.length = 49 := by rw [hl]; kernel_rfl
  have f0 := hf 0 (fld Try.prog 84 0) (by kernel_rfl)
  obtain ⟨y0, e0⟩ := part_some hxl (show 0 < 2 by omega)
  rw [e0, show (fld Try.prog 84 0).type = 3 from by kernel_rfl, show (fld Try.prog 84 0).offset = 0 from by kernel_rfl, show Try.prog.cellsOf 3 = 1 from by kernel_rfl] at f0
  obtain ⟨n0, p0, w0, -⟩ := (opens_int (P := Try.prog) (t := 3) (k := .i64) (by kernel_rfl) (by kernel_rfl)) en w spare held m _ _ f0 (fun k hk => hw k (by simp only [DataW.weights, hu]; exact DataW.weights_mem_each (j := 0) (t := 3) (by kernel_rfl) (by rw [List.getElem?_map, e0]; rfl) k hk))
  have f1 := hf 1 (fld Try.prog 84 1) (by kernel_rfl)
  obtain ⟨y1, e1⟩ := part_some hxl (show 1 < 2 by omega)
  rw [e1, show (fld Try.prog 84 1).type = 82 from by kernel_rfl, show (fld Try.prog 84 1).offset = 1 from by kernel_rfl, show Try.prog.cellsOf 82 = 48 from by kernel_rfl] at f1
  obtain ⟨n1, p1, w1, -⟩ := (opens_arr (P := Try.prog) (t := 82) (e := 2) (n := 48) (sz := 1) (opens_int (P := Try.prog) (t := 2) (k := .i64) (by kernel_rfl) (by kernel_rfl)) (by kernel_rfl) (by kernel_rfl) (by kernel_rfl) (len_encI .i64)) en w spare held m _ _ f1 (fun k hk => hw k (by simp only [DataW.weights, hu]; exact DataW.weights_mem_each (j := 1) (t := 82) (by kernel_rfl) (by rw [List.getElem?_map, e1]; rfl) k hk))
  have q0 : cs.drop 0 = (encI .i64) n0 ++ cs.drop 1 := by rw [← show (cs.drop 0).take 1 = (encI .i64) n0 from p0, show 1 = 0 + 1 from rfl, ← List.drop_drop, List.take_append_drop]
  have q1 : cs.drop 1 = (encV (encI .i64)) n1 ++ cs.drop 49 := by rw [← show (cs.drop 1).take 48 = (encV (encI .i64)) n1 from p1, show 49 = 1 + 48 from rfl, ← List.drop_drop, List.take_append_drop]
  have hc : cs = enc_api_Final ⟨n0, n1⟩ := by
    have h0 : cs = cs.drop 0 := rfl
    rw [h0, q0, q1, List.drop_of_length_le (Nat.le_of_eq hlN)]
    simp [enc_api_Final, encI, encB, encS]
  exact ⟨_, hc, ⟨w0, w1⟩, hl⟩
def ok_api_Pick (y : api_Pick) : Prop := (Lit.int .i64 y.Thread).wf = true ∧ (Lit.int .i64 y.Kind).wf = true ∧ (Lit.int .i64 y.Loc).wf = true
theorem opens_api_Pick : Opens Try.prog 88 (flat enc_api_Pick) ok_api_Pick := by
  intro H en w spare held fuel cs x h hw
  have hu : Try.prog.underlying 88 = some (.struct (Try.prog.fieldsOf 88)) := by kernel_rfl
  have hn : (Try.prog.fieldsOf 88).size = 3 := by kernel_rfl
  obtain ⟨xs, m, -, rfl, hl, hxl, hf⟩ := DataW.trod_struct hu h
  rw [hn] at hxl
  have hlN : cs.length = 3 := by rw [hl]; kernel_rfl
  have f0 := hf 0 (fld Try.prog 88 0) (by kernel_rfl)
  obtain ⟨y0, e0⟩ := part_some hxl (show 0 < 3 by omega)
  rw [e0, show (fld Try.prog 88 0).type = 3 from by kernel_rfl, show (fld Try.prog 88 0).offset = 0 from by kernel_rfl, show Try.prog.cellsOf 3 = 1 from by kernel_rfl] at f0
  obtain ⟨n0, p0, w0, -⟩ := (opens_int (P := Try.prog) (t := 3) (k := .i64) (by kernel_rfl) (by kernel_rfl)) en w spare held m _ _ f0 (fun k hk => hw k (by simp only [DataW.weights, hu]; exact DataW.weights_mem_each (j := 0) (t := 3) (by kernel_rfl) (by rw [List.getElem?_map, e0]; rfl) k hk))
  have f1 := hf 1 (fld Try.prog 88 1) (by kernel_rfl)
  obtain ⟨y1, e1⟩ := part_some hxl (show 1 < 3 by omega)
  rw [e1, show (fld Try.prog 88 1).type = 3 from by kernel_rfl, show (fld Try.prog 88 1).offset = 1 from by kernel_rfl, show Try.prog.cellsOf 3 = 1 from by kernel_rfl] at f1
  obtain ⟨n1, p1, w1, -⟩ := (opens_int (P := Try.prog) (t := 3) (k := .i64) (by kernel_rfl) (by kernel_rfl)) en w spare held m _ _ f1 (fun k hk => hw k (by simp only [DataW.weights, hu]; exact DataW.weights_mem_each (j := 1) (t := 3) (by kernel_rfl) (by rw [List.getElem?_map, e1]; rfl) k hk))
  have f2 := hf 2 (fld Try.prog 88 2) (by kernel_rfl)
  obtain ⟨y2, e2⟩ := part_some hxl (show 2 < 3 by omega)
  rw [e2, show (fld Try.prog 88 2).type = 3 from by kernel_rfl, show (fld Try.prog 88 2).offset = 2 from by kernel_rfl, show Try.prog.cellsOf 3 = 1 from by kernel_rfl] at f2
  obtain ⟨n2, p2, w2, -⟩ := (opens_int (P := Try.prog) (t := 3) (k := .i64) (by kernel_rfl) (by kernel_rfl)) en w spare held m _ _ f2 (fun k hk => hw k (by simp only [DataW.weights, hu]; exact DataW.weights_mem_each (j := 2) (t := 3) (by kernel_rfl) (by rw [List.getElem?_map, e2]; rfl) k hk))
  have q0 : cs.drop 0 = (encI .i64) n0 ++ cs.drop 1 := by rw [← show (cs.drop 0).take 1 = (encI .i64) n0 from p0, show 1 = 0 + 1 from rfl, ← List.drop_drop, List.take_append_drop]
  have q1 : cs.drop 1 = (encI .i64) n1 ++ cs.drop 2 := by rw [← show (cs.drop 1).take 1 = (encI .i64) n1 from p1, show 2 = 1 + 1 from rfl, ← List.drop_drop, List.take_append_drop]
  have q2 : cs.drop 2 = (encI .i64) n2 ++ cs.drop 3 := by rw [← show (cs.drop 2).take 1 = (encI .i64) n2 from p2, show 3 = 2 + 1 from rfl, ← List.drop_drop, List.take_append_drop]
  have hc : cs = enc_api_Pick ⟨n0, n1, n2⟩ := by
    have h0 : cs = cs.drop 0 := rfl
    rw [h0, q0, q1, q2, List.drop_of_length_le (Nat.le_of_eq hlN)]
    simp [enc_api_Pick, encI, encB, encS]
  exact ⟨_, hc, ⟨w0, w1, w2⟩, hl⟩
def ok_api_Way (y : api_Way) : Prop := ok_api_Final y.Final ∧ (y.Picks.length * 24 ≤ bnd ∧ ∀ x ∈ y.Picks, ok_api_Pick x)
theorem opens_api_Way : Opens Try.prog 86 rep_api_Way ok_api_Way := by
  intro H en w spare held fuel cs x h hw
  have hu : Try.prog.underlying 86 = some (.struct (Try.prog.fieldsOf 86)) := by kernel_rfl
  have hn : (Try.prog.fieldsOf 86).size = 2 := by kernel_rfl
  obtain ⟨xs, m, -, rfl, hl, hxl, hf⟩ := DataW.trod_struct hu h
  rw [hn] at hxl
  have hlN : cs.length = 50 := by rw [hl]; kernel_rfl
  have f0 := hf 0 (fld Try.prog 86 0) (by kernel_rfl)
  obtain ⟨y0, e0⟩ := part_some hxl (show 0 < 2 by omega)
  rw [e0, show (fld Try.prog 86 0).type = 84 from by kernel_rfl, show (fld Try.prog 86 0).offset = 0 from by kernel_rfl, show Try.prog.cellsOf 84 = 49 from by kernel_rfl] at f0
  obtain ⟨n0, p0, w0, -⟩ := opens_api_Final en w spare held m _ _ f0 (fun k hk => hw k (by simp only [DataW.weights, hu]; exact DataW.weights_mem_each (j := 0) (t := 84) (by kernel_rfl) (by rw [List.getElem?_map, e0]; rfl) k hk))
  have f1 := hf 1 (fld Try.prog 86 1) (by kernel_rfl)
  obtain ⟨y1, e1⟩ := part_some hxl (show 1 < 2 by omega)
  rw [e1, show (fld Try.prog 86 1).type = 40 from by kernel_rfl, show (fld Try.prog 86 1).offset = 49 from by kernel_rfl, show Try.prog.cellsOf 40 = 1 from by kernel_rfl] at f1
  obtain ⟨n1, p1, w1, -⟩ := (opens_sl (P := Try.prog) (t := 40) (e := 88) (sz := 3) (bytes := 24) opens_api_Pick (by kernel_rfl) (by kernel_rfl) (by decide) (by kernel_rfl) (by kernel_rfl)) en w spare held m _ _ f1 (fun k hk => hw k (by simp only [DataW.weights, hu]; exact DataW.weights_mem_each (j := 1) (t := 40) (by kernel_rfl) (by rw [List.getElem?_map, e1]; rfl) k hk))
  have q0 : cs.drop 0 = enc_api_Final n0 ++ cs.drop 49 := by rw [← show (cs.drop 0).take 49 = enc_api_Final n0 from p0, show 49 = 0 + 49 from rfl, ← List.drop_drop, List.take_append_drop]
  obtain ⟨A1, c1, r1, s1⟩ := p1
  have q1 : cs.drop 49 = [.slice A1 n1.length c1] ++ cs.drop 50 := by rw [← show (cs.drop 49).take 1 = [.slice A1 n1.length c1] from r1, show 50 = 49 + 1 from rfl, ← List.drop_drop, List.take_append_drop]
  have hc := (show cs = cs.drop 0 from rfl)
  rw [q0, q1, List.drop_of_length_le (Nat.le_of_eq hlN)] at hc
  refine ⟨⟨n0, n1⟩, ⟨A1, c1, ?_, s1⟩, ⟨w0, w1⟩, hl⟩
  refine hc.trans ?_
  simp [encI, encB, encS]
def ok_weirref14_Move (y : weirref14_Move) : Prop := (Lit.int .i64 y.To).wf = true ∧ ok_api_Pick y.Pick
theorem opens_weirref14_Move : Opens Try.prog 95 (flat enc_weirref14_Move) ok_weirref14_Move := by
  intro H en w spare held fuel cs x h hw
  have hu : Try.prog.underlying 95 = some (.struct (Try.prog.fieldsOf 95)) := by kernel_rfl
  have hn : (Try.prog.fieldsOf 95).size = 2 := by kernel_rfl
  obtain ⟨xs, m, -, rfl, hl, hxl, hf⟩ := DataW.trod_struct hu h
  rw [hn] at hxl
  have hlN : cs.length = 4 := by rw [hl]; kernel_rfl
  have f0 := hf 0 (fld Try.prog 95 0) (by kernel_rfl)
  obtain ⟨y0, e0⟩ := part_some hxl (show 0 < 2 by omega)
  rw [e0, show (fld Try.prog 95 0).type = 3 from by kernel_rfl, show (fld Try.prog 95 0).offset = 0 from by kernel_rfl, show Try.prog.cellsOf 3 = 1 from by kernel_rfl] at f0
  obtain ⟨n0, p0, w0, -⟩ := (opens_int (P := Try.prog) (t := 3) (k := .i64) (by kernel_rfl) (by kernel_rfl)) en w spare held m _ _ f0 (fun k hk => hw k (by simp only [DataW.weights, hu]; exact DataW.weights_mem_each (j := 0) (t := 3) (by kernel_rfl) (by rw [List.getElem?_map, e0]; rfl) k hk))
  have f1 := hf 1 (fld Try.prog 95 1) (by kernel_rfl)
  obtain ⟨y1, e1⟩ := part_some hxl (show 1 < 2 by omega)
  rw [e1, show (fld Try.prog 95 1).type = 88 from by kernel_rfl, show (fld Try.prog 95 1).offset = 1 from by kernel_rfl, show Try.prog.cellsOf 88 = 3 from by kernel_rfl] at f1
  obtain ⟨n1, p1, w1, -⟩ := opens_api_Pick en w spare held m _ _ f1 (fun k hk => hw k (by simp only [DataW.weights, hu]; exact DataW.weights_mem_each (j := 1) (t := 88) (by kernel_rfl) (by rw [List.getElem?_map, e1]; rfl) k hk))
  have q0 : cs.drop 0 = (encI .i64) n0 ++ cs.drop 1 := by rw [← show (cs.drop 0).take 1 = (encI .i64) n0 from p0, show 1 = 0 + 1 from rfl, ← List.drop_drop, List.take_append_drop]
  have q1 : cs.drop 1 = enc_api_Pick n1 ++ cs.drop 4 := by rw [← show (cs.drop 1).take 3 = enc_api_Pick n1 from p1, show 4 = 1 + 3 from rfl, ← List.drop_drop, List.take_append_drop]
  have hc : cs = enc_weirref14_Move ⟨n0, n1⟩ := by
    have h0 : cs = cs.drop 0 := rfl
    rw [h0, q0, q1, List.drop_of_length_le (Nat.le_of_eq hlN)]
    simp [enc_weirref14_Move, enc_api_Pick, encI, encB, encS]
  exact ⟨_, hc, ⟨w0, w1⟩, hl⟩
def ok_explore_visit (y : explore_visit) : Prop := (Lit.int .i64 y.depth).wf = true ∧ y.from_.size ≤ bnd ∧ ok_api_Pick y.by_
theorem opens_explore_visit : Opens Try.prog 102 (flat enc_explore_visit) ok_explore_visit := by
  intro H en w spare held fuel cs x h hw
  have hu : Try.prog.underlying 102 = some (.struct (Try.prog.fieldsOf 102)) := by kernel_rfl
  have hn : (Try.prog.fieldsOf 102).size = 3 := by kernel_rfl
  obtain ⟨xs, m, -, rfl, hl, hxl, hf⟩ := DataW.trod_struct hu h
  rw [hn] at hxl
  have hlN : cs.length = 5 := by rw [hl]; kernel_rfl
  have f0 := hf 0 (fld Try.prog 102 0) (by kernel_rfl)
  obtain ⟨y0, e0⟩ := part_some hxl (show 0 < 3 by omega)
  rw [e0, show (fld Try.prog 102 0).type = 3 from by kernel_rfl, show (fld Try.prog 102 0).offset = 0 from by kernel_rfl, show Try.prog.cellsOf 3 = 1 from by kernel_rfl] at f0
  obtain ⟨n0, p0, w0, -⟩ := (opens_int (P := Try.prog) (t := 3) (k := .i64) (by kernel_rfl) (by kernel_rfl)) en w spare held m _ _ f0 (fun k hk => hw k (by simp only [DataW.weights, hu]; exact DataW.weights_mem_each (j := 0) (t := 3) (by kernel_rfl) (by rw [List.getElem?_map, e0]; rfl) k hk))
  have f1 := hf 1 (fld Try.prog 102 1) (by kernel_rfl)
  obtain ⟨y1, e1⟩ := part_some hxl (show 1 < 3 by omega)
  rw [e1, show (fld Try.prog 102 1).type = 9 from by kernel_rfl, show (fld Try.prog 102 1).offset = 1 from by kernel_rfl, show Try.prog.cellsOf 9 = 1 from by kernel_rfl] at f1
  obtain ⟨n1, p1, w1, -⟩ := (opens_str (P := Try.prog) (t := 9) (by kernel_rfl) (by kernel_rfl)) en w spare held m _ _ f1 (fun k hk => hw k (by simp only [DataW.weights, hu]; exact DataW.weights_mem_each (j := 1) (t := 9) (by kernel_rfl) (by rw [List.getElem?_map, e1]; rfl) k hk))
  have f2 := hf 2 (fld Try.prog 102 2) (by kernel_rfl)
  obtain ⟨y2, e2⟩ := part_some hxl (show 2 < 3 by omega)
  rw [e2, show (fld Try.prog 102 2).type = 88 from by kernel_rfl, show (fld Try.prog 102 2).offset = 2 from by kernel_rfl, show Try.prog.cellsOf 88 = 3 from by kernel_rfl] at f2
  obtain ⟨n2, p2, w2, -⟩ := opens_api_Pick en w spare held m _ _ f2 (fun k hk => hw k (by simp only [DataW.weights, hu]; exact DataW.weights_mem_each (j := 2) (t := 88) (by kernel_rfl) (by rw [List.getElem?_map, e2]; rfl) k hk))
  have q0 : cs.drop 0 = (encI .i64) n0 ++ cs.drop 1 := by rw [← show (cs.drop 0).take 1 = (encI .i64) n0 from p0, show 1 = 0 + 1 from rfl, ← List.drop_drop, List.take_append_drop]
  have q1 : cs.drop 1 = encS n1 ++ cs.drop 2 := by rw [← show (cs.drop 1).take 1 = encS n1 from p1, show 2 = 1 + 1 from rfl, ← List.drop_drop, List.take_append_drop]
  have q2 : cs.drop 2 = enc_api_Pick n2 ++ cs.drop 5 := by rw [← show (cs.drop 2).take 3 = enc_api_Pick n2 from p2, show 5 = 2 + 3 from rfl, ← List.drop_drop, List.take_append_drop]
  have hc : cs = enc_explore_visit ⟨n0, n1, n2⟩ := by
    have h0 : cs = cs.drop 0 := rfl
    rw [h0, q0, q1, q2, List.drop_of_length_le (Nat.le_of_eq hlN)]
    simp [enc_explore_visit, enc_api_Pick, encI, encB, encS]
  exact ⟨_, hc, ⟨w0, w1, w2⟩, hl⟩
def ok_explore_edge (y : explore_edge) : Prop := ok_api_Pick y.by_ ∧ y.to.size ≤ bnd
theorem opens_explore_edge : Opens Try.prog 122 (flat enc_explore_edge) ok_explore_edge := by
  intro H en w spare held fuel cs x h hw
  have hu : Try.prog.underlying 122 = some (.struct (Try.prog.fieldsOf 122)) := by kernel_rfl
  have hn : (Try.prog.fieldsOf 122).size = 2 := by kernel_rfl
  obtain ⟨xs, m, -, rfl, hl, hxl, hf⟩ := DataW.trod_struct hu h
  rw [hn] at hxl
  have hlN : cs.length = 4 := by rw [hl]; kernel_rfl
  have f0 := hf 0 (fld Try.prog 122 0) (by kernel_rfl)
  obtain ⟨y0, e0⟩ := part_some hxl (show 0 < 2 by omega)
  rw [e0, show (fld Try.prog 122 0).type = 88 from by kernel_rfl, show (fld Try.prog 122 0).offset = 0 from by kernel_rfl, show Try.prog.cellsOf 88 = 3 from by kernel_rfl] at f0
  obtain ⟨n0, p0, w0, -⟩ := opens_api_Pick en w spare held m _ _ f0 (fun k hk => hw k (by simp only [DataW.weights, hu]; exact DataW.weights_mem_each (j := 0) (t := 88) (by kernel_rfl) (by rw [List.getElem?_map, e0]; rfl) k hk))
  have f1 := hf 1 (fld Try.prog 122 1) (by kernel_rfl)
  obtain ⟨y1, e1⟩ := part_some hxl (show 1 < 2 by omega)
  rw [e1, show (fld Try.prog 122 1).type = 9 from by kernel_rfl, show (fld Try.prog 122 1).offset = 3 from by kernel_rfl, show Try.prog.cellsOf 9 = 1 from by kernel_rfl] at f1
  obtain ⟨n1, p1, w1, -⟩ := (opens_str (P := Try.prog) (t := 9) (by kernel_rfl) (by kernel_rfl)) en w spare held m _ _ f1 (fun k hk => hw k (by simp only [DataW.weights, hu]; exact DataW.weights_mem_each (j := 1) (t := 9) (by kernel_rfl) (by rw [List.getElem?_map, e1]; rfl) k hk))
  have q0 : cs.drop 0 = enc_api_Pick n0 ++ cs.drop 3 := by rw [← show (cs.drop 0).take 3 = enc_api_Pick n0 from p0, show 3 = 0 + 3 from rfl, ← List.drop_drop, List.take_append_drop]
  have q1 : cs.drop 3 = encS n1 ++ cs.drop 4 := by rw [← show (cs.drop 3).take 1 = encS n1 from p1, show 4 = 3 + 1 from rfl, ← List.drop_drop, List.take_append_drop]
  have hc : cs = enc_explore_edge ⟨n0, n1⟩ := by
    have h0 : cs = cs.drop 0 := rfl
    rw [h0, q0, q1, List.drop_of_length_le (Nat.le_of_eq hlN)]
    simp [enc_explore_edge, enc_api_Pick, encI, encB, encS]
  exact ⟨_, hc, ⟨w0, w1⟩, hl⟩
end Go.Proofs.Ytfiamlhhhkiiaaa.K
