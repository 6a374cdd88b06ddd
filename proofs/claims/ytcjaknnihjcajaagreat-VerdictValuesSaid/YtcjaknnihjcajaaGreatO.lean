import Derived.Test.YtcjaknnihjcajaaGreatNL
import Derived.Test.YtcjaknnihjcajaaGreatE
set_option linter.unusedVariables false
set_option linter.unusedSimpArgs false
namespace Go.Proofs.YtcjaknnihjcajaaGreat.K
open Go Go.RowKit Go.ChangeShapes Go.WideShapes Go.ChangeAt
def ok_api_Op (y : api_Op) : Prop := (Lit.int .i64 y.Kind).wf = true ∧ (Lit.int .i64 y.Reg).wf = true ∧ (Lit.int .i64 y.Src).wf = true ∧ (Lit.int .i64 y.Loc).wf = true ∧ (Lit.int .i64 y.Imm).wf = true
theorem opens_api_Op : Opens Tryz.prog 103 (flat enc_api_Op) ok_api_Op := by
 intro H en w spare held fuel cs x h hw
 have hu : Tryz.prog.underlying 103 = some (.struct (Tryz.prog.fieldsOf 103)) := by kernel_rfl
 have hn : (Tryz.prog.fieldsOf 103).size = 5 := by kernel_rfl
 obtain ⟨xs, m, -, rfl, hl, hxl, hf⟩ := DataW.trod_struct hu h
 rw [hn] at hxl
 have hlN : cs.length = 5 := by rw [hl]; kernel_rfl
 have f0 := hf 0 (fld Tryz.prog 103 0) (by kernel_rfl)
 obtain ⟨y0, e0⟩ := part_some hxl (show 0 < 5 by omega)
 rw [e0, show (fld Tryz.prog 103 0).type = 3 from by kernel_rfl, show (fld Tryz.prog 103 0).offset = 0 from by kernel_rfl, show Tryz.prog.cellsOf 3 = 1 from by kernel_rfl] at f0
 obtain ⟨n0, p0, w0, -⟩ := (opens_int (P := Tryz.prog) (t := 3) (k := .i64) (by kernel_rfl) (by kernel_rfl)) en w spare held m _ _ f0 (fun k hk => hw k (by simp only [DataW.weights, hu]; exact DataW.weights_mem_each (j := 0) (t := 3) (by kernel_rfl) (by rw [List.getElem?_map, e0]; rfl) k hk))
 have f1 := hf 1 (fld Tryz.prog 103 1) (by kernel_rfl)
 obtain ⟨y1, e1⟩ := part_some hxl (show 1 < 5 by omega)
 rw [e1, show (fld Tryz.prog 103 1).type = 3 from by kernel_rfl, show (fld Tryz.prog 103 1).offset = 1 from by kernel_rfl, show Tryz.prog.cellsOf 3 = 1 from by kernel_rfl] at f1
 obtain ⟨n1, p1, w1, -⟩ := (opens_int (P := Tryz.prog) (t := 3) (k := .i64) (by kernel_rfl) (by kernel_rfl)) en w spare held m _ _ f1 (fun k hk => hw k (by simp only [DataW.weights, hu]; exact DataW.weights_mem_each (j := 1) (t := 3) (by kernel_rfl) (by rw [List.getElem?_map, e1]; rfl) k hk))
 have f2 := hf 2 (fld Tryz.prog 103 2) (by kernel_rfl)
 obtain ⟨y2, e2⟩ := part_some hxl (show 2 < 5 by omega)
 rw [e2, show (fld Tryz.prog 103 2).type = 3 from by kernel_rfl, show (fld Tryz.prog 103 2).offset = 2 from by kernel_rfl, show Tryz.prog.cellsOf 3 = 1 from by kernel_rfl] at f2
 obtain ⟨n2, p2, w2, -⟩ := (opens_int (P := Tryz.prog) (t := 3) (k := .i64) (by kernel_rfl) (by kernel_rfl)) en w spare held m _ _ f2 (fun k hk => hw k (by simp only [DataW.weights, hu]; exact DataW.weights_mem_each (j := 2) (t := 3) (by kernel_rfl) (by rw [List.getElem?_map, e2]; rfl) k hk))
 have f3 := hf 3 (fld Tryz.prog 103 3) (by kernel_rfl)
 obtain ⟨y3, e3⟩ := part_some hxl (show 3 < 5 by omega)
 rw [e3, show (fld Tryz.prog 103 3).type = 3 from by kernel_rfl, show (fld Tryz.prog 103 3).offset = 3 from by kernel_rfl, show Tryz.prog.cellsOf 3 = 1 from by kernel_rfl] at f3
 obtain ⟨n3, p3, w3, -⟩ := (opens_int (P := Tryz.prog) (t := 3) (k := .i64) (by kernel_rfl) (by kernel_rfl)) en w spare held m _ _ f3 (fun k hk => hw k (by simp only [DataW.weights, hu]; exact DataW.weights_mem_each (j := 3) (t := 3) (by kernel_rfl) (by rw [List.getElem?_map, e3]; rfl) k hk))
 have f4 := hf 4 (fld Tryz.prog 103 4) (by kernel_rfl)
 obtain ⟨y4, e4⟩ := part_some hxl (show 4 < 5 by omega)
 rw [e4, show (fld Tryz.prog 103 4).type = 2 from by kernel_rfl, show (fld Tryz.prog 103 4).offset = 4 from by kernel_rfl, show Tryz.prog.cellsOf 2 = 1 from by kernel_rfl] at f4
 obtain ⟨n4, p4, w4, -⟩ := (opens_int (P := Tryz.prog) (t := 2) (k := .i64) (by kernel_rfl) (by kernel_rfl)) en w spare held m _ _ f4 (fun k hk => hw k (by simp only [DataW.weights, hu]; exact DataW.weights_mem_each (j := 4) (t := 2) (by kernel_rfl) (by rw [List.getElem?_map, e4]; rfl) k hk))
 have q0 : cs.drop 0 = (encI .i64) n0 ++ cs.drop 1 := by rw [← show (cs.drop 0).take 1 = (encI .i64) n0 from p0, show 1 = 0 + 1 from rfl, ← List.drop_drop, List.take_append_drop]
 have q1 : cs.drop 1 = (encI .i64) n1 ++ cs.drop 2 := by rw [← show (cs.drop 1).take 1 = (encI .i64) n1 from p1, show 2 = 1 + 1 from rfl, ← List.drop_drop, List.take_append_drop]
 have q2 : cs.drop 2 = (encI .i64) n2 ++ cs.drop 3 := by rw [← show (cs.drop 2).take 1 = (encI .i64) n2 from p2, show 3 = 2 + 1 from rfl, ← List.drop_drop, List.take_append_drop]
 have q3 : cs.drop 3 = (encI .i64) n3 ++ cs.drop 4 := by rw [← show (cs.drop 3).take 1 = (encI .i64) n3 from p3, show 4 = 3 + 1 from rfl, ← List.drop_drop, List.take_append_drop]
 have q4 : cs.drop 4 = (encI .i64) n4 ++ cs.drop 5 := by rw [← show (cs.drop 4).take 1 = (encI .i64) n4 from p4, show 5 = 4 + 1 from rfl, ← List.drop_drop, List.take_append_drop]
 have hc : cs = enc_api_Op ⟨n0, n1, n2, n3, n4⟩ := by
  have h0 : cs = cs.drop 0 := rfl
  rw [h0, q0, q1, q2, q3, q4, List.drop_of_length_le (Nat.le_of_eq hlN)]
  simp [enc_api_Op, encI, encB, encS]
 exact ⟨_, hc, ⟨w0, w1, w2, w3, w4⟩, hl⟩
def ok_api_Prog (y : api_Prog) : Prop := (y.Threads.length * 24 ≤ bnd ∧ ∀ x ∈ y.Threads, (x.length * 40 ≤ bnd ∧ ∀ x' ∈ x, ok_api_Op x')) ∧ (y.Regs.length * 24 ≤ bnd ∧ ∀ x ∈ y.Regs, (x.length * 16 ≤ bnd ∧ ∀ x' ∈ x, x'.size ≤ bnd)) ∧ (y.Locs.length * 16 ≤ bnd ∧ ∀ x ∈ y.Locs, x.size ≤ bnd) ∧ (y.RegInit.length * 24 ≤ bnd ∧ ∀ x ∈ y.RegInit, (x.length * 8 ≤ bnd ∧ ∀ x' ∈ x, (Lit.int .i64 x').wf = true)) ∧ (y.LocInit.length * 8 ≤ bnd ∧ ∀ x ∈ y.LocInit, (Lit.int .i64 x).wf = true)
theorem opens_api_Prog : Opens Tryz.prog 28 rep_api_Prog ok_api_Prog := by
 intro H en w spare held fuel cs x h hw
 have hu : Tryz.prog.underlying 28 = some (.struct (Tryz.prog.fieldsOf 28)) := by kernel_rfl
 have hn : (Tryz.prog.fieldsOf 28).size = 5 := by kernel_rfl
 obtain ⟨xs, m, -, rfl, hl, hxl, hf⟩ := DataW.trod_struct hu h
 rw [hn] at hxl
 have hlN : cs.length = 5 := by rw [hl]; kernel_rfl
 have f0 := hf 0 (fld Tryz.prog 28 0) (by kernel_rfl)
 obtain ⟨y0, e0⟩ := part_some hxl (show 0 < 5 by omega)
 rw [e0, show (fld Tryz.prog 28 0).type = 22 from by kernel_rfl, show (fld Tryz.prog 28 0).offset = 0 from by kernel_rfl, show Tryz.prog.cellsOf 22 = 1 from by kernel_rfl] at f0
 obtain ⟨n0, p0, w0, -⟩ := (opens_sl (P := Tryz.prog) (t := 22) (e := 101) (sz := 1) (bytes := 24) (opens_sl (P := Tryz.prog) (t := 101) (e := 103) (sz := 5) (bytes := 40) opens_api_Op (by kernel_rfl) (by kernel_rfl) (by decide) (by kernel_rfl) (by kernel_rfl)) (by kernel_rfl) (by kernel_rfl) (by decide) (by kernel_rfl) (by kernel_rfl)) en w spare held m _ _ f0 (fun k hk => hw k (by simp only [DataW.weights, hu]; exact DataW.weights_mem_each (j := 0) (t := 22) (by kernel_rfl) (by rw [List.getElem?_map, e0]; rfl) k hk))
 have f1 := hf 1 (fld Tryz.prog 28 1) (by kernel_rfl)
 obtain ⟨y1, e1⟩ := part_some hxl (show 1 < 5 by omega)
 rw [e1, show (fld Tryz.prog 28 1).type = 23 from by kernel_rfl, show (fld Tryz.prog 28 1).offset = 1 from by kernel_rfl, show Tryz.prog.cellsOf 23 = 1 from by kernel_rfl] at f1
 obtain ⟨n1, p1, w1, -⟩ := (opens_sl (P := Tryz.prog) (t := 23) (e := 24) (sz := 1) (bytes := 24) (opens_sl (P := Tryz.prog) (t := 24) (e := 9) (sz := 1) (bytes := 16) (opens_str (P := Tryz.prog) (t := 9) (by kernel_rfl) (by kernel_rfl)) (by kernel_rfl) (by kernel_rfl) (by decide) (by kernel_rfl) (by kernel_rfl)) (by kernel_rfl) (by kernel_rfl) (by decide) (by kernel_rfl) (by kernel_rfl)) en w spare held m _ _ f1 (fun k hk => hw k (by simp only [DataW.weights, hu]; exact DataW.weights_mem_each (j := 1) (t := 23) (by kernel_rfl) (by rw [List.getElem?_map, e1]; rfl) k hk))
 have f2 := hf 2 (fld Tryz.prog 28 2) (by kernel_rfl)
 obtain ⟨y2, e2⟩ := part_some hxl (show 2 < 5 by omega)
 rw [e2, show (fld Tryz.prog 28 2).type = 24 from by kernel_rfl, show (fld Tryz.prog 28 2).offset = 2 from by kernel_rfl, show Tryz.prog.cellsOf 24 = 1 from by kernel_rfl] at f2
 obtain ⟨n2, p2, w2, -⟩ := (opens_sl (P := Tryz.prog) (t := 24) (e := 9) (sz := 1) (bytes := 16) (opens_str (P := Tryz.prog) (t := 9) (by kernel_rfl) (by kernel_rfl)) (by kernel_rfl) (by kernel_rfl) (by decide) (by kernel_rfl) (by kernel_rfl)) en w spare held m _ _ f2 (fun k hk => hw k (by simp only [DataW.weights, hu]; exact DataW.weights_mem_each (j := 2) (t := 24) (by kernel_rfl) (by rw [List.getElem?_map, e2]; rfl) k hk))
 have f3 := hf 3 (fld Tryz.prog 28 3) (by kernel_rfl)
 obtain ⟨y3, e3⟩ := part_some hxl (show 3 < 5 by omega)
 rw [e3, show (fld Tryz.prog 28 3).type = 25 from by kernel_rfl, show (fld Tryz.prog 28 3).offset = 3 from by kernel_rfl, show Tryz.prog.cellsOf 25 = 1 from by kernel_rfl] at f3
 obtain ⟨n3, p3, w3, -⟩ := (opens_sl (P := Tryz.prog) (t := 25) (e := 26) (sz := 1) (bytes := 24) (opens_sl (P := Tryz.prog) (t := 26) (e := 2) (sz := 1) (bytes := 8) (opens_int (P := Tryz.prog) (t := 2) (k := .i64) (by kernel_rfl) (by kernel_rfl)) (by kernel_rfl) (by kernel_rfl) (by decide) (by kernel_rfl) (by kernel_rfl)) (by kernel_rfl) (by kernel_rfl) (by decide) (by kernel_rfl) (by kernel_rfl)) en w spare held m _ _ f3 (fun k hk => hw k (by simp only [DataW.weights, hu]; exact DataW.weights_mem_each (j := 3) (t := 25) (by kernel_rfl) (by rw [List.getElem?_map, e3]; rfl) k hk))
 have f4 := hf 4 (fld Tryz.prog 28 4) (by kernel_rfl)
 obtain ⟨y4, e4⟩ := part_some hxl (show 4 < 5 by omega)
 rw [e4, show (fld Tryz.prog 28 4).type = 26 from by kernel_rfl, show (fld Tryz.prog 28 4).offset = 4 from by kernel_rfl, show Tryz.prog.cellsOf 26 = 1 from by kernel_rfl] at f4
 obtain ⟨n4, p4, w4, -⟩ := (opens_sl (P := Tryz.prog) (t := 26) (e := 2) (sz := 1) (bytes := 8) (opens_int (P := Tryz.prog) (t := 2) (k := .i64) (by kernel_rfl) (by kernel_rfl)) (by kernel_rfl) (by kernel_rfl) (by decide) (by kernel_rfl) (by kernel_rfl)) en w spare held m _ _ f4 (fun k hk => hw k (by simp only [DataW.weights, hu]; exact DataW.weights_mem_each (j := 4) (t := 26) (by kernel_rfl) (by rw [List.getElem?_map, e4]; rfl) k hk))
 obtain ⟨A0, c0, r0, s0⟩ := p0
 have q0 : cs.drop 0 = [.slice A0 n0.length c0] ++ cs.drop 1 := by rw [← show (cs.drop 0).take 1 = [.slice A0 n0.length c0] from r0, show 1 = 0 + 1 from rfl, ← List.drop_drop, List.take_append_drop]
 obtain ⟨A1, c1, r1, s1⟩ := p1
 have q1 : cs.drop 1 = [.slice A1 n1.length c1] ++ cs.drop 2 := by rw [← show (cs.drop 1).take 1 = [.slice A1 n1.length c1] from r1, show 2 = 1 + 1 from rfl, ← List.drop_drop, List.take_append_drop]
 obtain ⟨A2, c2, r2, s2⟩ := p2
 have q2 : cs.drop 2 = [.slice A2 n2.length c2] ++ cs.drop 3 := by rw [← show (cs.drop 2).take 1 = [.slice A2 n2.length c2] from r2, show 3 = 2 + 1 from rfl, ← List.drop_drop, List.take_append_drop]
 obtain ⟨A3, c3, r3, s3⟩ := p3
 have q3 : cs.drop 3 = [.slice A3 n3.length c3] ++ cs.drop 4 := by rw [← show (cs.drop 3).take 1 = [.slice A3 n3.length c3] from r3, show 4 = 3 + 1 from rfl, ← List.drop_drop, List.take_append_drop]
 obtain ⟨A4, c4, r4, s4⟩ := p4
 have q4 : cs.drop 4 = [.slice A4 n4.length c4] ++ cs.drop 5 := by rw [← show (cs.drop 4).take 1 = [.slice A4 n4.length c4] from r4, show 5 = 4 + 1 from rfl, ← List.drop_drop, List.take_append_drop]
 have hc := (show cs = cs.drop 0 from rfl)
 rw [q0, q1, q2, q3, q4, List.drop_of_length_le (Nat.le_of_eq hlN)] at hc
 refine ⟨⟨n0, n1, n2, n3, n4⟩, ⟨A0, c0, A1, c1, A2, c2, A3, c3, A4, c4, ?_, s0, s1, s2, s3, s4⟩, ⟨w0, w1, w2, w3, w4⟩, hl⟩
 refine hc.trans ?_
 simp [encI, encB, encS]
def ok_api_Ref (y : api_Ref) : Prop := (Lit.int .i64 y.Thread).wf = true ∧ y.Name.size ≤ bnd
theorem opens_api_Ref : Opens Tryz.prog 40 (flat enc_api_Ref) ok_api_Ref := by
 intro H en w spare held fuel cs x h hw
 have hu : Tryz.prog.underlying 40 = some (.struct (Tryz.prog.fieldsOf 40)) := by kernel_rfl
 have hn : (Tryz.prog.fieldsOf 40).size = 2 := by kernel_rfl
 obtain ⟨xs, m, -, rfl, hl, hxl, hf⟩ := DataW.trod_struct hu h
 rw [hn] at hxl
 have hlN : cs.length = 2 := by rw [hl]; kernel_rfl
 have f0 := hf 0 (fld Tryz.prog 40 0) (by kernel_rfl)
 obtain ⟨y0, e0⟩ := part_some hxl (show 0 < 2 by omega)
 rw [e0, show (fld Tryz.prog 40 0).type = 3 from by kernel_rfl, show (fld Tryz.prog 40 0).offset = 0 from by kernel_rfl, show Tryz.prog.cellsOf 3 = 1 from by kernel_rfl] at f0
 obtain ⟨n0, p0, w0, -⟩ := (opens_int (P := Tryz.prog) (t := 3) (k := .i64) (by kernel_rfl) (by kernel_rfl)) en w spare held m _ _ f0 (fun k hk => hw k (by simp only [DataW.weights, hu]; exact DataW.weights_mem_each (j := 0) (t := 3) (by kernel_rfl) (by rw [List.getElem?_map, e0]; rfl) k hk))
 have f1 := hf 1 (fld Tryz.prog 40 1) (by kernel_rfl)
 obtain ⟨y1, e1⟩ := part_some hxl (show 1 < 2 by omega)
 rw [e1, show (fld Tryz.prog 40 1).type = 9 from by kernel_rfl, show (fld Tryz.prog 40 1).offset = 1 from by kernel_rfl, show Tryz.prog.cellsOf 9 = 1 from by kernel_rfl] at f1
 obtain ⟨n1, p1, w1, -⟩ := (opens_str (P := Tryz.prog) (t := 9) (by kernel_rfl) (by kernel_rfl)) en w spare held m _ _ f1 (fun k hk => hw k (by simp only [DataW.weights, hu]; exact DataW.weights_mem_each (j := 1) (t := 9) (by kernel_rfl) (by rw [List.getElem?_map, e1]; rfl) k hk))
 have q0 : cs.drop 0 = (encI .i64) n0 ++ cs.drop 1 := by rw [← show (cs.drop 0).take 1 = (encI .i64) n0 from p0, show 1 = 0 + 1 from rfl, ← List.drop_drop, List.take_append_drop]
 have q1 : cs.drop 1 = encS n1 ++ cs.drop 2 := by rw [← show (cs.drop 1).take 1 = encS n1 from p1, show 2 = 1 + 1 from rfl, ← List.drop_drop, List.take_append_drop]
 have hc : cs = enc_api_Ref ⟨n0, n1⟩ := by
  have h0 : cs = cs.drop 0 := rfl
  rw [h0, q0, q1, List.drop_of_length_le (Nat.le_of_eq hlN)]
  simp [enc_api_Ref, encI, encB, encS]
 exact ⟨_, hc, ⟨w0, w1⟩, hl⟩
def ok_api_Init (y : api_Init) : Prop := ok_api_Ref y.Ref ∧ (Lit.int .i64 y.Value).wf = true
theorem opens_api_Init : Opens Tryz.prog 94 (flat enc_api_Init) ok_api_Init := by
 intro H en w spare held fuel cs x h hw
 have hu : Tryz.prog.underlying 94 = some (.struct (Tryz.prog.fieldsOf 94)) := by kernel_rfl
 have hn : (Tryz.prog.fieldsOf 94).size = 2 := by kernel_rfl
 obtain ⟨xs, m, -, rfl, hl, hxl, hf⟩ := DataW.trod_struct hu h
 rw [hn] at hxl
 have hlN : cs.length = 3 := by rw [hl]; kernel_rfl
 have f0 := hf 0 (fld Tryz.prog 94 0) (by kernel_rfl)
 obtain ⟨y0, e0⟩ := part_some hxl (show 0 < 2 by omega)
 rw [e0, show (fld Tryz.prog 94 0).type = 40 from by kernel_rfl, show (fld Tryz.prog 94 0).offset = 0 from by kernel_rfl, show Tryz.prog.cellsOf 40 = 2 from by kernel_rfl] at f0
 obtain ⟨n0, p0, w0, -⟩ := opens_api_Ref en w spare held m _ _ f0 (fun k hk => hw k (by simp only [DataW.weights, hu]; exact DataW.weights_mem_each (j := 0) (t := 40) (by kernel_rfl) (by rw [List.getElem?_map, e0]; rfl) k hk))
 have f1 := hf 1 (fld Tryz.prog 94 1) (by kernel_rfl)
 obtain ⟨y1, e1⟩ := part_some hxl (show 1 < 2 by omega)
 rw [e1, show (fld Tryz.prog 94 1).type = 2 from by kernel_rfl, show (fld Tryz.prog 94 1).offset = 2 from by kernel_rfl, show Tryz.prog.cellsOf 2 = 1 from by kernel_rfl] at f1
 obtain ⟨n1, p1, w1, -⟩ := (opens_int (P := Tryz.prog) (t := 2) (k := .i64) (by kernel_rfl) (by kernel_rfl)) en w spare held m _ _ f1 (fun k hk => hw k (by simp only [DataW.weights, hu]; exact DataW.weights_mem_each (j := 1) (t := 2) (by kernel_rfl) (by rw [List.getElem?_map, e1]; rfl) k hk))
 have q0 : cs.drop 0 = enc_api_Ref n0 ++ cs.drop 2 := by rw [← show (cs.drop 0).take 2 = enc_api_Ref n0 from p0, show 2 = 0 + 2 from rfl, ← List.drop_drop, List.take_append_drop]
 have q1 : cs.drop 2 = (encI .i64) n1 ++ cs.drop 3 := by rw [← show (cs.drop 2).take 1 = (encI .i64) n1 from p1, show 3 = 2 + 1 from rfl, ← List.drop_drop, List.take_append_drop]
 have hc : cs = enc_api_Init ⟨n0, n1⟩ := by
  have h0 : cs = cs.drop 0 := rfl
  rw [h0, q0, q1, List.drop_of_length_le (Nat.le_of_eq hlN)]
  simp [enc_api_Init, enc_api_Ref, encI, encB, encS]
 exact ⟨_, hc, ⟨w0, w1⟩, hl⟩
def ok_api_Instr (y : api_Instr) : Prop := (Lit.int .i64 y.Op).wf = true ∧ y.Reg.size ≤ bnd ∧ y.Src.size ≤ bnd ∧ y.Loc.size ≤ bnd ∧ (Lit.int .i64 y.Imm).wf = true
theorem opens_api_Instr : Opens Tryz.prog 98 (flat enc_api_Instr) ok_api_Instr := by
 intro H en w spare held fuel cs x h hw
 have hu : Tryz.prog.underlying 98 = some (.struct (Tryz.prog.fieldsOf 98)) := by kernel_rfl
 have hn : (Tryz.prog.fieldsOf 98).size = 5 := by kernel_rfl
 obtain ⟨xs, m, -, rfl, hl, hxl, hf⟩ := DataW.trod_struct hu h
 rw [hn] at hxl
 have hlN : cs.length = 5 := by rw [hl]; kernel_rfl
 have f0 := hf 0 (fld Tryz.prog 98 0) (by kernel_rfl)
 obtain ⟨y0, e0⟩ := part_some hxl (show 0 < 5 by omega)
 rw [e0, show (fld Tryz.prog 98 0).type = 3 from by kernel_rfl, show (fld Tryz.prog 98 0).offset = 0 from by kernel_rfl, show Tryz.prog.cellsOf 3 = 1 from by kernel_rfl] at f0
 obtain ⟨n0, p0, w0, -⟩ := (opens_int (P := Tryz.prog) (t := 3) (k := .i64) (by kernel_rfl) (by kernel_rfl)) en w spare held m _ _ f0 (fun k hk => hw k (by simp only [DataW.weights, hu]; exact DataW.weights_mem_each (j := 0) (t := 3) (by kernel_rfl) (by rw [List.getElem?_map, e0]; rfl) k hk))
 have f1 := hf 1 (fld Tryz.prog 98 1) (by kernel_rfl)
 obtain ⟨y1, e1⟩ := part_some hxl (show 1 < 5 by omega)
 rw [e1, show (fld Tryz.prog 98 1).type = 9 from by kernel_rfl, show (fld Tryz.prog 98 1).offset = 1 from by kernel_rfl, show Tryz.prog.cellsOf 9 = 1 from by kernel_rfl] at f1
 obtain ⟨n1, p1, w1, -⟩ := (opens_str (P := Tryz.prog) (t := 9) (by kernel_rfl) (by kernel_rfl)) en w spare held m _ _ f1 (fun k hk => hw k (by simp only [DataW.weights, hu]; exact DataW.weights_mem_each (j := 1) (t := 9) (by kernel_rfl) (by rw [List.getElem?_map, e1]; rfl) k hk))
 have f2 := hf 2 (fld Tryz.prog 98 2) (by kernel_rfl)
 obtain ⟨y2, e2⟩ := part_some hxl (show 2 < 5 by omega)
 rw [e2, show (fld Tryz.prog 98 2).type = 9 from by kernel_rfl, show (fld Tryz.prog 98 2).offset = 2 from by kernel_rfl, show Tryz.prog.cellsOf 9 = 1 from by kernel_rfl] at f2
 obtain ⟨n2, p2, w2, -⟩ := (opens_str (P := Tryz.prog) (t := 9) (by kernel_rfl) (by kernel_rfl)) en w spare held m _ _ f2 (fun k hk => hw k (by simp only [DataW.weights, hu]; exact DataW.weights_mem_each (j := 2) (t := 9) (by kernel_rfl) (by rw [List.getElem?_map, e2]; rfl) k hk))
 have f3 := hf 3 (fld Tryz.prog 98 3) (by kernel_rfl)
 obtain ⟨y3, e3⟩ := part_some hxl (show 3 < 5 by omega)
 rw [e3, show (fld Tryz.prog 98 3).type = 9 from by kernel_rfl, show (fld Tryz.prog 98 3).offset = 3 from by kernel_rfl, show Tryz.prog.cellsOf 9 = 1 from by kernel_rfl] at f3
 obtain ⟨n3, p3, w3, -⟩ := (opens_str (P := Tryz.prog) (t := 9) (by kernel_rfl) (by kernel_rfl)) en w spare held m _ _ f3 (fun k hk => hw k (by simp only [DataW.weights, hu]; exact DataW.weights_mem_each (j := 3) (t := 9) (by kernel_rfl) (by rw [List.getElem?_map, e3]; rfl) k hk))
 have f4 := hf 4 (fld Tryz.prog 98 4) (by kernel_rfl)
 obtain ⟨y4, e4⟩ := part_some hxl (show 4 < 5 by omega)
 rw [e4, show (fld Tryz.prog 98 4).type = 2 from by kernel_rfl, show (fld Tryz.prog 98 4).offset = 4 from by kernel_rfl, show Tryz.prog.cellsOf 2 = 1 from by kernel_rfl] at f4
 obtain ⟨n4, p4, w4, -⟩ := (opens_int (P := Tryz.prog) (t := 2) (k := .i64) (by kernel_rfl) (by kernel_rfl)) en w spare held m _ _ f4 (fun k hk => hw k (by simp only [DataW.weights, hu]; exact DataW.weights_mem_each (j := 4) (t := 2) (by kernel_rfl) (by rw [List.getElem?_map, e4]; rfl) k hk))
 have q0 : cs.drop 0 = (encI .i64) n0 ++ cs.drop 1 := by rw [← show (cs.drop 0).take 1 = (encI .i64) n0 from p0, show 1 = 0 + 1 from rfl, ← List.drop_drop, List.take_append_drop]
 have q1 : cs.drop 1 = encS n1 ++ cs.drop 2 := by rw [← show (cs.drop 1).take 1 = encS n1 from p1, show 2 = 1 + 1 from rfl, ← List.drop_drop, List.take_append_drop]
 have q2 : cs.drop 2 = encS n2 ++ cs.drop 3 := by rw [← show (cs.drop 2).take 1 = encS n2 from p2, show 3 = 2 + 1 from rfl, ← List.drop_drop, List.take_append_drop]
 have q3 : cs.drop 3 = encS n3 ++ cs.drop 4 := by rw [← show (cs.drop 3).take 1 = encS n3 from p3, show 4 = 3 + 1 from rfl, ← List.drop_drop, List.take_append_drop]
 have q4 : cs.drop 4 = (encI .i64) n4 ++ cs.drop 5 := by rw [← show (cs.drop 4).take 1 = (encI .i64) n4 from p4, show 5 = 4 + 1 from rfl, ← List.drop_drop, List.take_append_drop]
 have hc : cs = enc_api_Instr ⟨n0, n1, n2, n3, n4⟩ := by
  have h0 : cs = cs.drop 0 := rfl
  rw [h0, q0, q1, q2, q3, q4, List.drop_of_length_le (Nat.le_of_eq hlN)]
  simp [enc_api_Instr, encI, encB, encS]
 exact ⟨_, hc, ⟨w0, w1, w2, w3, w4⟩, hl⟩
def ok_api_Node (y : api_Node) : Prop := (Lit.int .i64 y.Op).wf = true ∧ (Lit.int .i64 y.A).wf = true ∧ (Lit.int .i64 y.B).wf = true ∧ ok_api_Ref y.Ref ∧ (Lit.int .i64 y.Value).wf = true
theorem opens_api_Node : Opens Tryz.prog 96 (flat enc_api_Node) ok_api_Node := by
 intro H en w spare held fuel cs x h hw
 have hu : Tryz.prog.underlying 96 = some (.struct (Tryz.prog.fieldsOf 96)) := by kernel_rfl
 have hn : (Tryz.prog.fieldsOf 96).size = 5 := by kernel_rfl
 obtain ⟨xs, m, -, rfl, hl, hxl, hf⟩ := DataW.trod_struct hu h
 rw [hn] at hxl
 have hlN : cs.length = 6 := by rw [hl]; kernel_rfl
 have f0 := hf 0 (fld Tryz.prog 96 0) (by kernel_rfl)
 obtain ⟨y0, e0⟩ := part_some hxl (show 0 < 5 by omega)
 rw [e0, show (fld Tryz.prog 96 0).type = 3 from by kernel_rfl, show (fld Tryz.prog 96 0).offset = 0 from by kernel_rfl, show Tryz.prog.cellsOf 3 = 1 from by kernel_rfl] at f0
 obtain ⟨n0, p0, w0, -⟩ := (opens_int (P := Tryz.prog) (t := 3) (k := .i64) (by kernel_rfl) (by kernel_rfl)) en w spare held m _ _ f0 (fun k hk => hw k (by simp only [DataW.weights, hu]; exact DataW.weights_mem_each (j := 0) (t := 3) (by kernel_rfl) (by rw [List.getElem?_map, e0]; rfl) k hk))
 have f1 := hf 1 (fld Tryz.prog 96 1) (by kernel_rfl)
 obtain ⟨y1, e1⟩ := part_some hxl (show 1 < 5 by omega)
 rw [e1, show (fld Tryz.prog 96 1).type = 3 from by kernel_rfl, show (fld Tryz.prog 96 1).offset = 1 from by kernel_rfl, show Tryz.prog.cellsOf 3 = 1 from by kernel_rfl] at f1
 obtain ⟨n1, p1, w1, -⟩ := (opens_int (P := Tryz.prog) (t := 3) (k := .i64) (by kernel_rfl) (by kernel_rfl)) en w spare held m _ _ f1 (fun k hk => hw k (by simp only [DataW.weights, hu]; exact DataW.weights_mem_each (j := 1) (t := 3) (by kernel_rfl) (by rw [List.getElem?_map, e1]; rfl) k hk))
 have f2 := hf 2 (fld Tryz.prog 96 2) (by kernel_rfl)
 obtain ⟨y2, e2⟩ := part_some hxl (show 2 < 5 by omega)
 rw [e2, show (fld Tryz.prog 96 2).type = 3 from by kernel_rfl, show (fld Tryz.prog 96 2).offset = 2 from by kernel_rfl, show Tryz.prog.cellsOf 3 = 1 from by kernel_rfl] at f2
 obtain ⟨n2, p2, w2, -⟩ := (opens_int (P := Tryz.prog) (t := 3) (k := .i64) (by kernel_rfl) (by kernel_rfl)) en w spare held m _ _ f2 (fun k hk => hw k (by simp only [DataW.weights, hu]; exact DataW.weights_mem_each (j := 2) (t := 3) (by kernel_rfl) (by rw [List.getElem?_map, e2]; rfl) k hk))
 have f3 := hf 3 (fld Tryz.prog 96 3) (by kernel_rfl)
 obtain ⟨y3, e3⟩ := part_some hxl (show 3 < 5 by omega)
 rw [e3, show (fld Tryz.prog 96 3).type = 40 from by kernel_rfl, show (fld Tryz.prog 96 3).offset = 3 from by kernel_rfl, show Tryz.prog.cellsOf 40 = 2 from by kernel_rfl] at f3
 obtain ⟨n3, p3, w3, -⟩ := opens_api_Ref en w spare held m _ _ f3 (fun k hk => hw k (by simp only [DataW.weights, hu]; exact DataW.weights_mem_each (j := 3) (t := 40) (by kernel_rfl) (by rw [List.getElem?_map, e3]; rfl) k hk))
 have f4 := hf 4 (fld Tryz.prog 96 4) (by kernel_rfl)
 obtain ⟨y4, e4⟩ := part_some hxl (show 4 < 5 by omega)
 rw [e4, show (fld Tryz.prog 96 4).type = 2 from by kernel_rfl, show (fld Tryz.prog 96 4).offset = 5 from by kernel_rfl, show Tryz.prog.cellsOf 2 = 1 from by kernel_rfl] at f4
 obtain ⟨n4, p4, w4, -⟩ := (opens_int (P := Tryz.prog) (t := 2) (k := .i64) (by kernel_rfl) (by kernel_rfl)) en w spare held m _ _ f4 (fun k hk => hw k (by simp only [DataW.weights, hu]; exact DataW.weights_mem_each (j := 4) (t := 2) (by kernel_rfl) (by rw [List.getElem?_map, e4]; rfl) k hk))
 have q0 : cs.drop 0 = (encI .i64) n0 ++ cs.drop 1 := by rw [← show (cs.drop 0).take 1 = (encI .i64) n0 from p0, show 1 = 0 + 1 from rfl, ← List.drop_drop, List.take_append_drop]
 have q1 : cs.drop 1 = (encI .i64) n1 ++ cs.drop 2 := by rw [← show (cs.drop 1).take 1 = (encI .i64) n1 from p1, show 2 = 1 + 1 from rfl, ← List.drop_drop, List.take_append_drop]
 have q2 : cs.drop 2 = (encI .i64) n2 ++ cs.drop 3 := by rw [← show (cs.drop 2).take 1 = (encI .i64) n2 from p2, show 3 = 2 + 1 from rfl, ← List.drop_drop, List.take_append_drop]
 have q3 : cs.drop 3 = enc_api_Ref n3 ++ cs.drop 5 := by rw [← show (cs.drop 3).take 2 = enc_api_Ref n3 from p3, show 5 = 3 + 2 from rfl, ← List.drop_drop, List.take_append_drop]
 have q4 : cs.drop 5 = (encI .i64) n4 ++ cs.drop 6 := by rw [← show (cs.drop 5).take 1 = (encI .i64) n4 from p4, show 6 = 5 + 1 from rfl, ← List.drop_drop, List.take_append_drop]
 have hc : cs = enc_api_Node ⟨n0, n1, n2, n3, n4⟩ := by
  have h0 : cs = cs.drop 0 := rfl
  rw [h0, q0, q1, q2, q3, q4, List.drop_of_length_le (Nat.le_of_eq hlN)]
  simp [enc_api_Node, enc_api_Ref, encI, encB, encS]
 exact ⟨_, hc, ⟨w0, w1, w2, w3, w4⟩, hl⟩
def ok_api_Test (y : api_Test) : Prop := y.Name.size ≤ bnd ∧ y.Doc.size ≤ bnd ∧ (y.Inits.length * 32 ≤ bnd ∧ ∀ x ∈ y.Inits, ok_api_Init x) ∧ (y.Threads.length * 24 ≤ bnd ∧ ∀ x ∈ y.Threads, (x.length * 64 ≤ bnd ∧ ∀ x' ∈ x, ok_api_Instr x')) ∧ (y.Watch.length * 24 ≤ bnd ∧ ∀ x ∈ y.Watch, ok_api_Ref x) ∧ (Lit.int .i64 y.Quant).wf = true ∧ (y.Cond.length * 56 ≤ bnd ∧ ∀ x ∈ y.Cond, ok_api_Node x)
theorem opens_api_Test : Opens Tryz.prog 35 rep_api_Test ok_api_Test := by
 intro H en w spare held fuel cs x h hw
 have hu : Tryz.prog.underlying 35 = some (.struct (Tryz.prog.fieldsOf 35)) := by kernel_rfl
 have hn : (Tryz.prog.fieldsOf 35).size = 7 := by kernel_rfl
 obtain ⟨xs, m, -, rfl, hl, hxl, hf⟩ := DataW.trod_struct hu h
 rw [hn] at hxl
 have hlN : cs.length = 7 := by rw [hl]; kernel_rfl
 have f0 := hf 0 (fld Tryz.prog 35 0) (by kernel_rfl)
 obtain ⟨y0, e0⟩ := part_some hxl (show 0 < 7 by omega)
 rw [e0, show (fld Tryz.prog 35 0).type = 9 from by kernel_rfl, show (fld Tryz.prog 35 0).offset = 0 from by kernel_rfl, show Tryz.prog.cellsOf 9 = 1 from by kernel_rfl] at f0
 obtain ⟨n0, p0, w0, -⟩ := (opens_str (P := Tryz.prog) (t := 9) (by kernel_rfl) (by kernel_rfl)) en w spare held m _ _ f0 (fun k hk => hw k (by simp only [DataW.weights, hu]; exact DataW.weights_mem_each (j := 0) (t := 9) (by kernel_rfl) (by rw [List.getElem?_map, e0]; rfl) k hk))
 have f1 := hf 1 (fld Tryz.prog 35 1) (by kernel_rfl)
 obtain ⟨y1, e1⟩ := part_some hxl (show 1 < 7 by omega)
 rw [e1, show (fld Tryz.prog 35 1).type = 9 from by kernel_rfl, show (fld Tryz.prog 35 1).offset = 1 from by kernel_rfl, show Tryz.prog.cellsOf 9 = 1 from by kernel_rfl] at f1
 obtain ⟨n1, p1, w1, -⟩ := (opens_str (P := Tryz.prog) (t := 9) (by kernel_rfl) (by kernel_rfl)) en w spare held m _ _ f1 (fun k hk => hw k (by simp only [DataW.weights, hu]; exact DataW.weights_mem_each (j := 1) (t := 9) (by kernel_rfl) (by rw [List.getElem?_map, e1]; rfl) k hk))
 have f2 := hf 2 (fld Tryz.prog 35 2) (by kernel_rfl)
 obtain ⟨y2, e2⟩ := part_some hxl (show 2 < 7 by omega)
 rw [e2, show (fld Tryz.prog 35 2).type = 29 from by kernel_rfl, show (fld Tryz.prog 35 2).offset = 2 from by kernel_rfl, show Tryz.prog.cellsOf 29 = 1 from by kernel_rfl] at f2
 obtain ⟨n2, p2, w2, -⟩ := (opens_sl (P := Tryz.prog) (t := 29) (e := 94) (sz := 3) (bytes := 32) opens_api_Init (by kernel_rfl) (by kernel_rfl) (by decide) (by kernel_rfl) (by kernel_rfl)) en w spare held m _ _ f2 (fun k hk => hw k (by simp only [DataW.weights, hu]; exact DataW.weights_mem_each (j := 2) (t := 29) (by kernel_rfl) (by rw [List.getElem?_map, e2]; rfl) k hk))
 have f3 := hf 3 (fld Tryz.prog 35 3) (by kernel_rfl)
 obtain ⟨y3, e3⟩ := part_some hxl (show 3 < 7 by omega)
 rw [e3, show (fld Tryz.prog 35 3).type = 30 from by kernel_rfl, show (fld Tryz.prog 35 3).offset = 3 from by kernel_rfl, show Tryz.prog.cellsOf 30 = 1 from by kernel_rfl] at f3
 obtain ⟨n3, p3, w3, -⟩ := (opens_sl (P := Tryz.prog) (t := 30) (e := 85) (sz := 1) (bytes := 24) (opens_sl (P := Tryz.prog) (t := 85) (e := 98) (sz := 5) (bytes := 64) opens_api_Instr (by kernel_rfl) (by kernel_rfl) (by decide) (by kernel_rfl) (by kernel_rfl)) (by kernel_rfl) (by kernel_rfl) (by decide) (by kernel_rfl) (by kernel_rfl)) en w spare held m _ _ f3 (fun k hk => hw k (by simp only [DataW.weights, hu]; exact DataW.weights_mem_each (j := 3) (t := 30) (by kernel_rfl) (by rw [List.getElem?_map, e3]; rfl) k hk))
 have f4 := hf 4 (fld Tryz.prog 35 4) (by kernel_rfl)
 obtain ⟨y4, e4⟩ := part_some hxl (show 4 < 7 by omega)
 rw [e4, show (fld Tryz.prog 35 4).type = 31 from by kernel_rfl, show (fld Tryz.prog 35 4).offset = 4 from by kernel_rfl, show Tryz.prog.cellsOf 31 = 1 from by kernel_rfl] at f4
 obtain ⟨n4, p4, w4, -⟩ := (opens_sl (P := Tryz.prog) (t := 31) (e := 40) (sz := 2) (bytes := 24) opens_api_Ref (by kernel_rfl) (by kernel_rfl) (by decide) (by kernel_rfl) (by kernel_rfl)) en w spare held m _ _ f4 (fun k hk => hw k (by simp only [DataW.weights, hu]; exact DataW.weights_mem_each (j := 4) (t := 31) (by kernel_rfl) (by rw [List.getElem?_map, e4]; rfl) k hk))
 have f5 := hf 5 (fld Tryz.prog 35 5) (by kernel_rfl)
 obtain ⟨y5, e5⟩ := part_some hxl (show 5 < 7 by omega)
 rw [e5, show (fld Tryz.prog 35 5).type = 3 from by kernel_rfl, show (fld Tryz.prog 35 5).offset = 5 from by kernel_rfl, show Tryz.prog.cellsOf 3 = 1 from by kernel_rfl] at f5
 obtain ⟨n5, p5, w5, -⟩ := (opens_int (P := Tryz.prog) (t := 3) (k := .i64) (by kernel_rfl) (by kernel_rfl)) en w spare held m _ _ f5 (fun k hk => hw k (by simp only [DataW.weights, hu]; exact DataW.weights_mem_each (j := 5) (t := 3) (by kernel_rfl) (by rw [List.getElem?_map, e5]; rfl) k hk))
 have f6 := hf 6 (fld Tryz.prog 35 6) (by kernel_rfl)
 obtain ⟨y6, e6⟩ := part_some hxl (show 6 < 7 by omega)
 rw [e6, show (fld Tryz.prog 35 6).type = 33 from by kernel_rfl, show (fld Tryz.prog 35 6).offset = 6 from by kernel_rfl, show Tryz.prog.cellsOf 33 = 1 from by kernel_rfl] at f6
 obtain ⟨n6, p6, w6, -⟩ := (opens_sl (P := Tryz.prog) (t := 33) (e := 96) (sz := 6) (bytes := 56) opens_api_Node (by kernel_rfl) (by kernel_rfl) (by decide) (by kernel_rfl) (by kernel_rfl)) en w spare held m _ _ f6 (fun k hk => hw k (by simp only [DataW.weights, hu]; exact DataW.weights_mem_each (j := 6) (t := 33) (by kernel_rfl) (by rw [List.getElem?_map, e6]; rfl) k hk))
 have q0 : cs.drop 0 = encS n0 ++ cs.drop 1 := by rw [← show (cs.drop 0).take 1 = encS n0 from p0, show 1 = 0 + 1 from rfl, ← List.drop_drop, List.take_append_drop]
 have q1 : cs.drop 1 = encS n1 ++ cs.drop 2 := by rw [← show (cs.drop 1).take 1 = encS n1 from p1, show 2 = 1 + 1 from rfl, ← List.drop_drop, List.take_append_drop]
 obtain ⟨A2, c2, r2, s2⟩ := p2
 have q2 : cs.drop 2 = [.slice A2 n2.length c2] ++ cs.drop 3 := by rw [← show (cs.drop 2).take 1 = [.slice A2 n2.length c2] from r2, show 3 = 2 + 1 from rfl, ← List.drop_drop, List.take_append_drop]
 obtain ⟨A3, c3, r3, s3⟩ := p3
 have q3 : cs.drop 3 = [.slice A3 n3.length c3] ++ cs.drop 4 := by rw [← show (cs.drop 3).take 1 = [.slice A3 n3.length c3] from r3, show 4 = 3 + 1 from rfl, ← List.drop_drop, List.take_append_drop]
 obtain ⟨A4, c4, r4, s4⟩ := p4
 have q4 : cs.drop 4 = [.slice A4 n4.length c4] ++ cs.drop 5 := by rw [← show (cs.drop 4).take 1 = [.slice A4 n4.length c4] from r4, show 5 = 4 + 1 from rfl, ← List.drop_drop, List.take_append_drop]
 have q5 : cs.drop 5 = (encI .i64) n5 ++ cs.drop 6 := by rw [← show (cs.drop 5).take 1 = (encI .i64) n5 from p5, show 6 = 5 + 1 from rfl, ← List.drop_drop, List.take_append_drop]
 obtain ⟨A6, c6, r6, s6⟩ := p6
 have q6 : cs.drop 6 = [.slice A6 n6.length c6] ++ cs.drop 7 := by rw [← show (cs.drop 6).take 1 = [.slice A6 n6.length c6] from r6, show 7 = 6 + 1 from rfl, ← List.drop_drop, List.take_append_drop]
 have hc := (show cs = cs.drop 0 from rfl)
 rw [q0, q1, q2, q3, q4, q5, q6, List.drop_of_length_le (Nat.le_of_eq hlN)] at hc
 refine ⟨⟨n0, n1, n2, n3, n4, n5, n6⟩, ⟨A2, c2, A3, c3, A4, c4, A6, c6, ?_, s2, s3, s4, s6⟩, ⟨w0, w1, w2, w3, w4, w5, w6⟩, hl⟩
 refine hc.trans ?_
 simp [encI, encB, encS]
def ok_api_Final (y : api_Final) : Prop := (Lit.int .i64 y.N).wf = true ∧ (∀ i : Int, 0 ≤ i → i < (48 : Nat) → (Lit.int .i64 (vget y.V i)).wf = true)
theorem opens_api_Final : Opens Tryz.prog 38 (flat enc_api_Final) ok_api_Final := by
 intro H en w spare held fuel cs x h hw
 have hu : Tryz.prog.underlying 38 = some (.struct (Tryz.prog.fieldsOf 38)) := by kernel_rfl
 have hn : (Tryz.prog.fieldsOf 38).size = 2 := by kernel_rfl
 obtain ⟨xs, m, -, rfl, hl, hxl, hf⟩ := DataW.trod_struct hu h
 rw [hn] at hxl
 have hlN : cs.length = 49 := by rw [hl]; kernel_rfl
 have f0 := hf 0 (fld Tryz.prog 38 0) (by kernel_rfl)
 obtain ⟨y0, e0⟩ := part_some hxl (show 0 < 2 by omega)
 rw [e0, show (fld Tryz.prog 38 0).type = 3 from by kernel_rfl, show (fld Tryz.prog 38 0).offset = 0 from by kernel_rfl, show Tryz.prog.cellsOf 3 = 1 from by kernel_rfl] at f0
 obtain ⟨n0, p0, w0, -⟩ := (opens_int (P := Tryz.prog) (t := 3) (k := .i64) (by kernel_rfl) (by kernel_rfl)) en w spare held m _ _ f0 (fun k hk => hw k (by simp only [DataW.weights, hu]; exact DataW.weights_mem_each (j := 0) (t := 3) (by kernel_rfl) (by rw [List.getElem?_map, e0]; rfl) k hk))
 have f1 := hf 1 (fld Tryz.prog 38 1) (by kernel_rfl)
 obtain ⟨y1, e1⟩ := part_some hxl (show 1 < 2 by omega)
 rw [e1, show (fld Tryz.prog 38 1).type = 36 from by kernel_rfl, show (fld Tryz.prog 38 1).offset = 1 from by kernel_rfl, show Tryz.prog.cellsOf 36 = 48 from by kernel_rfl] at f1
 obtain ⟨n1, p1, w1, -⟩ := (opens_arr (P := Tryz.prog) (t := 36) (e := 2) (n := 48) (sz := 1) (opens_int (P := Tryz.prog) (t := 2) (k := .i64) (by kernel_rfl) (by kernel_rfl)) (by kernel_rfl) (by kernel_rfl) (by kernel_rfl) (len_encI .i64)) en w spare held m _ _ f1 (fun k hk => hw k (by simp only [DataW.weights, hu]; exact DataW.weights_mem_each (j := 1) (t := 36) (by kernel_rfl) (by rw [List.getElem?_map, e1]; rfl) k hk))
 have q0 : cs.drop 0 = (encI .i64) n0 ++ cs.drop 1 := by rw [← show (cs.drop 0).take 1 = (encI .i64) n0 from p0, show 1 = 0 + 1 from rfl, ← List.drop_drop, List.take_append_drop]
 have q1 : cs.drop 1 = (encV (encI .i64)) n1 ++ cs.drop 49 := by rw [← show (cs.drop 1).take 48 = (encV (encI .i64)) n1 from p1, show 49 = 1 + 48 from rfl, ← List.drop_drop, List.take_append_drop]
 have hc : cs = enc_api_Final ⟨n0, n1⟩ := by
  have h0 : cs = cs.drop 0 := rfl
  rw [h0, q0, q1, List.drop_of_length_le (Nat.le_of_eq hlN)]
  simp [enc_api_Final, encI, encB, encS]
 exact ⟨_, hc, ⟨w0, w1⟩, hl⟩
end Go.Proofs.YtcjaknnihjcajaaGreat.K
