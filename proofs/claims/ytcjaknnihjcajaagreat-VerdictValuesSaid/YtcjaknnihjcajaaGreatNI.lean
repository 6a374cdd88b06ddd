/- Ranging over a string: the iterator is an object of memory, told as the string and the place that comes next. -/
import Derived.Test.YtcjaknnihjcajaaGreatNM
set_option linter.unusedVariables false
set_option linter.unusedSimpArgs false
namespace Go.Proofs.YtcjaknnihjcajaaGreat.K
open Go Go.RowKit Go.MapKept
def rdc (s : ByteArray) (i : Nat) : Int := ((Utf8.decode s i).1 : Int)
def rdw (s : ByteArray) (i : Nat) : Nat := (Utf8.decode s i).2
def xit (b : Nat) (s : ByteArray) (pos : Nat) : XObj where
 own := fun k => k = b
 keeps := fun _ _ => False
 holds := fun w => w.heap[b]? = some (.stringIter s pos)
 stable := fun hb h => (hb b rfl).trans h
 there := fun h hk => by rw [hk]; exact heap_lt h
section
variable {P : Program} {f : Fx} {k : List Item} {l : List Value} {w w0 : World} {R : Ending → World → Prop} {c : Code} {i : Nat} {rest : List Nat} {d : Option Tmp} {ty : TypeId} {Z : Zm} {xs : List XObj} {s : ByteArray}
theorem x_range {o : Oper} {t : TypeId} {x : Operand} (hx : evL l x = .string s) (hu : P.underlying t = some .string) (ho : o.op = .range t x) :
  (execOp (evL l) o).run P w = .ok (.value (.pointer (some ⟨w.heap.size, 0, none⟩))) (w.alloc (.stringIter s 0)) := by
 unfold execOp
 simp [ho, hx, Instr.range, run_underlying hu, newObj, Sem.run, Result.andThen]
theorem r_range {t : TypeId} {x : Operand} (hS : St w0 Z xs w) (ho : opI c i = some (d, .range t x, ty)) (hw : wantI c l i = true) (hx : evL l x = .string s) (hu : P.underlying t = some .string)
  (h : ∀ b w', St w0 Z (xit b s 0 :: xs) w' → Runs P f (.inRegion (opsOf c) rest :: k) (putL l d (.pointer (some ⟨b, 0, none⟩))) w' R) : Runs P f (.inRegion (opsOf c) (i :: rest) :: k) l w R := by
 refine r_val ho hw (fun o ho _ => x_range hx hu ho) (h _ _ (hS.add (X := xit w.heap.size s 0) ⟨rfl, rfl, rfl, ?_, fun j hj _ => (heap_alloc w _).2 j hj, Nat.le_refl _⟩ (heap_alloc w _).1 (fun _ h => Nat.le_of_eq h.symm)))
 have : (w.alloc (.stringIter s 0)).heap = w.heap.push (.stringIter s 0) := rfl
 rw [this]; simp
theorem x_next0 {o : Oper} {b pos : Nat} {x : Operand} (hb : w.heap[b]? = some (.stringIter s pos)) (hp : ¬ pos < s.size) (hx : evL l x = .pointer (some ⟨b, 0, none⟩)) (ho : o.op = .next x true) :
  (execOp (evL l) o).run P w = .ok (.value (.tuple #[.bool false])) w := by
 unfold execOp
 simp [ho, hx, Instr.next, getObj, hb, hp, Sem.run, Result.andThen]
theorem x_next1 {o : Oper} {b pos : Nat} {x : Operand} (hb : w.heap[b]? = some (.stringIter s pos)) (hp : pos < s.size) (hx : evL l x = .pointer (some ⟨b, 0, none⟩)) (ho : o.op = .next x true) :
  (execOp (evL l) o).run P w = .ok (.value (.tuple #[.bool true, .int .i64 (pos : Int), .int .i32 (rdc s pos)])) { w with heap := w.heap.setIfInBounds b (.stringIter s (pos + rdw s pos)) } := by
 unfold execOp
 simp [ho, hx, Instr.next, getObj, setObj, hb, hp, Sem.run, Result.andThen, rdc, rdw, goInt]
theorem r_next0 {b pos : Nat} {x : Operand} (n : Nat) (hS : St w0 Z xs w) (hn : nth xs n = some (xit b s pos)) (ho : opI c i = some (d, .next x true, ty)) (hw : wantI c l i = true) (hx : evL l x = .pointer (some ⟨b, 0, none⟩)) (hp : (decide (pos < s.size)) = false)
  (h : Runs P f (.inRegion (opsOf c) rest :: k) (putL l d (.tuple #[.bool false])) w R) : Runs P f (.inRegion (opsOf c) (i :: rest) :: k) l w R :=
 r_val ho hw (fun o ho _ => x_next0 (hS.at n hn) (of_decide_eq_false hp) hx ho) h
theorem r_next1 {b pos : Nat} {x : Operand} (hS : St w0 Z (xit b s pos :: xs) w) (ho : opI c i = some (d, .next x true, ty)) (hw : wantI c l i = true) (hx : evL l x = .pointer (some ⟨b, 0, none⟩)) (hp : (decide (pos < s.size)) = true)
  (h : ∀ w', St w0 Z (xit b s (pos + rdw s pos) :: xs) w' → Runs P f (.inRegion (opsOf c) rest :: k) (putL l d (.tuple #[.bool true, .int .i64 (pos : Int), .int .i32 (rdc s pos)])) w' R) : Runs P f (.inRegion (opsOf c) (i :: rest) :: k) l w R := by
 have hb : w.heap[b]? = some (.stringIter s pos) := hS.hd
 refine r_val ho hw (fun o ho _ => x_next1 hb (of_decide_eq_true hp) hx ho) (h _ (hS.turn (X' := xit b s (pos + rdw s pos)) ⟨rfl, rfl, rfl, by simp, fun j hj hS => by simp [Ne.symm hS], Nat.le_refl _⟩ ?_ (fun _ h => .inl h) (fun _ _ _ _ h => h.elim) (fun _ _ _ _ h => h.elim)))
 exact (heap_set hb).1
end
end Go.Proofs.YtcjaknnihjcajaaGreat.K
