/- A final state, opened. -/
import Derived.Test.YteppciglfdiljaaKL
import Derived.Test.YteppciglfdiljaaE
set_option linter.unusedVariables false
set_option linter.unusedSimpArgs false
namespace Go.Proofs.Yteppciglfdiljaa.K
open Go Go.RowKit Go.ChangeShapes Go.WideShapes Go.ChangeAt

def ok_api_Final (y : api_Final) : Prop := (Lit.int .i64 y.N).wf = true ∧ ∀ i, (Lit.int .i64 (vget y.V i)).wf = true
theorem rd_api_Final {H : Type} {enc : TypeId × Value → H} {w : World} {base : Nat} {spare : Nat → Bool} {held : Bool} {fuel : Nat} {cs : List Value} {x : DataW H × List MemPlace} (h : DataW.trod enc Try.prog w base spare held fuel 24 cs = some x) :
    ∃ y : api_Final, cs = enc_api_Final y ∧ ok_api_Final y := by
  have hu : Try.prog.underlying 24 = some (.struct (Try.prog.fieldsOf 24)) := by kernel_rfl
  have hn : (Try.prog.fieldsOf 24).size = 2 := by kernel_rfl
  obtain ⟨xs, m, -, -, hl, hxl, hf⟩ := DataW.trod_struct hu h
  rw [hn] at hxl
  rw [show Try.prog.cellsOf 24 = 49 from by kernel_rfl] at hl
  have f0 := hf 0 (fld Try.prog 24 0) (by kernel_rfl)
  have f1 := hf 1 (fld Try.prog 24 1) (by kernel_rfl)
  obtain ⟨y0, e0⟩ := part_some hxl (show 0 < 2 by omega)
  obtain ⟨y1, e1⟩ := part_some hxl (show 1 < 2 by omega)
  rw [e0] at f0; rw [e1] at f1
  obtain ⟨n0, p0, -, w0⟩ := DataW.trod_int (k := .i64) (by kernel_rfl) f0
  obtain ⟨n1, p1, w1⟩ := rd_arrI (n := 48) (e := 2) (k := .i64) (by kernel_rfl) (by kernel_rfl) (by kernel_rfl) (by kernel_rfl) f1
  rw [show (fld Try.prog 24 0).offset = 0 from by kernel_rfl, show Try.prog.cellsOf (fld Try.prog 24 0).type = 1 from by kernel_rfl] at p0
  rw [show (fld Try.prog 24 1).offset = 1 from by kernel_rfl, show Try.prog.cellsOf (fld Try.prog 24 1).type = 48 from by kernel_rfl] at p1
  refine ⟨⟨n0, n1⟩, ?_, w0, w1⟩
  have q1 : cs.drop 1 = n1.toList.map (Value.int .i64) := by rw [← p1, List.take_of_length_le (by simp; omega)]
  have q0 : cs.take 1 = [.int .i64 n0] := by simpa using p0
  unfold enc_api_Final
  rw [← q0, ← q1, List.take_append_drop]
end Go.Proofs.Yteppciglfdiljaa.K
