/- Conversions amid regions that draw: []byte(s); an element of an array's value. -/
import Derived.Test.YtfiamlhhhkiiaaaNX
import Derived.Lib.ConvBytes
set_option linter.unusedVariables false
set_option linter.unusedSimpArgs false
namespace Go.Proofs.Ytfiamlhhhkiiaaa.K
open Go Go.RowKit Go.MapKept
theorem x_indexArrV {P : Program} {w : World} {l : List Value} {α : Type} [Inhabited α] {n : Nat} {enc : α → List Value} {c : α → Value} {v : Vector α n} {o : Oper} {t e : TypeId} {x y : Operand} {kk : IntKind} {j : Int} (hc : ∀ a, enc a = [c a]) (hx : evL l x = .agg (encV enc v).toArray) (hy : evL l y = .int kk j)
    (hu : P.underlying t = some (.array n e)) (hs : pureSem P (sizeOf e) = some 1) (hag : pureSem P (isAgg e) = some false) (h0 : 0 ≤ j) (h1 : j < n) (ho : o.op = .index t x y) : (execOp (evL l) o).run P w = .ok (.value (c (vget v j))) w := by
  have hm : encV enc v = v.toList.map c := by
    unfold encV
    generalize v.toList = q
    induction q with
    | nil => rfl
    | cons a r ih => rw [List.flatMap_cons, hc, ih]; rfl
  have hlt : j.toNat < n := by omega
  have hget : (v.toList.map c)[j.toNat]? = some (c (vget v j)) := by
    rw [List.getElem?_map, vget_get h0 h1]; rfl
  unfold execOp
  simp only [ho, hx, hy, Instr.index, asIntOf, Sem.run_bind, Sem.run_pure, Result.andThen_ok, run_underlying hu, h0, h1, and_self, if_true, pureSem_run hs, Nat.mul_one, part, pureSem_run hag, Bool.false_eq_true, if_false, hm, List.getElem?_toArray, hget]
/-! ### []byte(s): a row that is read, never written -/
theorem strBytes_len (s : ByteArray) : (strBytes s).length = s.size := by simp [strBytes]
def xsb (b : Nat) (s : ByteArray) (c : Nat) : XObj where
  own := fun k => k = b
  keeps := fun _ _ => False
  holds := fun w => (∃ cs t fr, w.heap[b]? = some (.cells cs t fr) ∧ ∀ j, j < s.size → cs[j]? = some (.int .u8 (s.data.toList.getD j 0).toNat)) ∧ s.size ≤ c ∧ s.size ≤ 140737488355328
  stable := fun hb h => by obtain ⟨⟨cs, t, fr, h1, h2⟩, h3⟩ := h; exact ⟨⟨cs, t, fr, (hb b rfl).trans h1, h2⟩, h3⟩
  there := fun h hk => by obtain ⟨⟨cs, t, fr, h1, h2⟩, h3⟩ := h; rw [hk]; exact heap_lt h1
section
variable {P : Program} {l : List Value} {w w0 : World} {Z : Zm} {xs : List XObj} {s : ByteArray} {b c : Nat}
theorem does_strBytes {or : Oper} {p : Prop} {Post : Value → World → Prop} {t1 t2 e : TypeId} {x : Operand} (hS : St w0 Z xs w) (ho : or.op = .convert t1 t2 x) (hx : evL l x = .string s) (h1 : P.underlying t1 = some .string) (h2 : P.underlying t2 = some (.slice e)) (he : P.underlying e = some (.int .u8)) (hg : s.size ≤ 140737488355328)
    (h : ∀ b c w', St w0 Z (xsb b s c :: xs) w' → Post (.slice (some ⟨b, 0, none⟩) (strBytes s).length c) w') : Does P (execOp (evL l) or) p w Post := by
  refine .inl ⟨_, _, by unfold execOp; simp only [ho, hx, Sem.run_bind, Lib.run_convert_string_bytes w t1 t2 e s h1 h2 he, Result.andThen_ok, Sem.run_pure]; rfl, ?_⟩
  have := h w.heap.size (grownCap w s.size 0 e) (Lib.bytesWorld w e s) ?_
  · rw [strBytes_len] at this; exact this
  · refine hS.add (X := xsb w.heap.size s (grownCap w s.size 0 e)) ?_ ⟨⟨_, _, _, Lib.bytesWorld_at_new w e s, fun j hj => ?_⟩, grownCap_ge w s.size 0 e, hg⟩ (fun _ h => Nat.le_of_eq h.symm)
    · exact ⟨rfl, rfl, rfl, by rw [Lib.bytesWorld_size]; omega, fun j hj _ => Lib.bytesWorld_at_old w e s j hj, by simp [Lib.bytesWorld, World.freeze, World.alloc, World.drew, -World.alloc_eq, -World.drew_eq]⟩
    · have := Lib.bytesWorld_cell w e s j hj
      unfold World.cell? at this
      rw [Lib.bytesWorld_at_new] at this
      simpa using this
theorem St.lendsb (h : St w0 Z (xsb b s c :: xs) w) : ∃ Z', Zm.Le Z Z' ∧ St w0 Z' xs w ∧ SlZ (flat (encI .u8)) 1 Z' (some ⟨b, 0, none⟩) c (strBytes s) := by
  have hh : (xsb b s c).holds w := h.hd
  obtain ⟨⟨cs, t, fr, h1, h2⟩, h3, h4⟩ := hh
  refine ⟨_, Zm.le_with _ _ _, h.lend, ⟨by rw [strBytes_len]; omega, by rw [strBytes_len]; exact h3, fun i x hx => ⟨b, 0, _, rfl, rfl, rfl, ?_⟩⟩⟩
  intro j v hv
  have hi : i < s.size := by have := (List.getElem?_eq_some_iff.1 hx).1; rwa [strBytes_len] at this
  have hx2 : x = ((s.data.toList.getD i 0).toNat : Int) := by
    have := hx
    simp only [strBytes, List.getElem?_map] at this
    cases hq : s.data.toList[i]? with
    | none => rw [hq] at this; cases this
    | some y => rw [hq] at this; simp only [Option.map_some, Option.some.injEq] at this; rw [List.getD_eq_getElem?_getD, hq]; exact this.symm
  have hj : j = 0 ∧ v = .int .u8 x := by
    cases j with
    | zero => exact ⟨rfl, by simpa [encI] using hv.symm⟩
    | succ j => simp [encI] at hv
  obtain ⟨rfl, rfl⟩ := hj
  refine .inr ⟨rfl, ?_⟩
  rw [hx2]
  simp only [World.cell?, h1, Nat.zero_add, Nat.mul_one, Nat.add_zero]
  simpa using h2 i hi
end
end Go.Proofs.Ytfiamlhhhkiiaaa.K
