/- The contracts of strings.Builder's methods at this seat's numbers, in the engine's words. -/
import Derived.Test.YteppciglfdiljaaK5
import Derived.Test.YteppciglfdiljaaProg
import Derived.Lib.Builder
import Derived.Lib.AppendStr
import Derived.Lib.UnsafeStr
import Derived.Laws.Externs
import Derived.Shelf.RegionOpenPlain
import Derived.WalkKit
set_option linter.unusedVariables false
set_option linter.unusedSimpArgs false
namespace Go.Proofs.Yteppciglfdiljaa.K
open Go Go.RowKit

/-- A builder in a block of its own, its row newer than itself, holding this text. -/
def Bd (b : Nat) (s : ByteArray) (w : World) : Prop := Lib.IsBuilder 58 5 b b (Lib.strCells s) w ∧ ∀ p a n, w.heap[b]? ≠ some (.cells #[p, .slice (some a) n 0] 58 (0, 0))
theorem Bd.lt {b : Nat} {s : ByteArray} {w : World} (h : Bd b s w) : b < w.heap.size := by
  rcases h.1 with h | h <;> exact h.lt
theorem Bd.below {b : Nat} {s : ByteArray} {w w' : World} (h : Bd b s w) (hs : Fr [] w w') : Bd b s w' := by
  have hb : w'.heap[b]? = w.heap[b]? := hs.block b h.lt (by simp)
  have key : ∀ p, Lib.BuilderAt 58 5 b b p (Lib.strCells s) w → Lib.BuilderAt 58 5 b b p (Lib.strCells s) w' := by
    rintro p ⟨h1, v, h2, h3, h4⟩
    refine ⟨h1, v, hb.trans h2, ⟨h3.1, ?_⟩, h4⟩
    rcases h3.2 with h5 | ⟨g, cap, cur, he, hg, hh, r⟩
    · exact .inl h5
    · exact .inr ⟨g, cap, cur, he, hg, (hs.block g (Array.getElem?_eq_some_iff.1 hh).1 (by simp)).trans hh, r⟩
  refine ⟨h.1.imp (key _) (key _), fun p a n => by rw [hb]; exact h.2 p a n⟩

theorem Bd.fr1 {b g : Nat} {s : ByteArray} {w w' : World} (h : Bd b s w) (hs : Fr [g] w w') (hg : g < b) : Bd b s w' := by
  have hb : w'.heap[b]? = w.heap[b]? := hs.block b h.lt (by simp; omega)
  have key : ∀ p, Lib.BuilderAt 58 5 b b p (Lib.strCells s) w → Lib.BuilderAt 58 5 b b p (Lib.strCells s) w' := by
    rintro p ⟨h1, v, h2, h3, h4⟩
    refine ⟨h1, v, hb.trans h2, ⟨h3.1, ?_⟩, h4⟩
    rcases h3.2 with h5 | ⟨k, cap, cur, he, hk, hh, r⟩
    · exact .inl h5
    · exact .inr ⟨k, cap, cur, he, hk, (hs.block k (Array.getElem?_eq_some_iff.1 hh).1 (by simp; omega)).trans hh, r⟩
  refine ⟨h.1.imp (key _) (key _), fun p a n => by rw [hb]; exact h.2 p a n⟩
theorem Fr.of_below {b : Nat} {w w' : World} (h : Below b w w') : Fr (List.range' b (w.heap.size - b)) w w' :=
  ⟨h.os, h.tape, h.output, h.size, fun k hk hn => h.block k (by
    rcases Nat.lt_or_ge k b with h1 | h1
    · exact h1
    · exact absurd (by rw [List.mem_range'_1]; omega) hn)⟩
theorem not_range {b k n : Nat} (h : k < b) : k ∉ List.range' b n := by rw [List.mem_range'_1]; omega
theorem Fr.stepB {w0 w w' : World} {b : Nat} (h : Fr [] w0 w) (k : Below b w w') (hb : w0.heap.size ≤ b) : Fr [] w0 w' :=
  h.step (Fr.of_below k) (by intro g hg; rw [List.mem_range'_1] at hg; exact .inr (by omega))

theorem bd_size : (Try.prog.info? 58).map (fun i => i.size) = some 2 := by kernel_rfl
theorem bd_byte : (Try.prog.info? 5).map (fun i => (i.zero, i.size, i.bytes)) = some (some (.int .u8 0), 1, 1) := by kernel_rfl
theorem bd_lies : liesAt Try.prog Try.prog.depth 58 (2 / Try.prog.cellsOf 58) 0 58 1 = true := by kernel_rfl

set_option maxHeartbeats 1000000 in
set_option maxRecDepth 100000 in
theorem bd_check_used (b : Nat) (w : World) (h0 : w.cell? ⟨b, 0, none⟩ = some (.pointer (some ⟨b, 0, none⟩))) :
    Calls Try.prog 45 #[.pointer (some ⟨b, 0, none⟩)] w fun e w' => e = .returned (.tuple #[]) ∧ w' = w := by
  obtain ⟨j, hj, _⟩ := Option.map_eq_some_iff.1 bd_size
  go_enter Try.func45, Try.ntmps45
  go_wp2
  rw [Lib.run_neq_ptr_same w _ Try.underlying55 hj]
  go_wp2
  go_end0
  exact ⟨rfl, rfl⟩

set_option maxHeartbeats 1000000 in
set_option maxRecDepth 100000 in
theorem bd_check_fresh (b : Nat) (w : World) (h0 : w.cell? ⟨b, 0, none⟩ = some (.pointer none)) (hsh : w.shape? b = some (58, 2)) (hfz : w.frozen? ⟨b, 0, none⟩ = false) :
    Calls Try.prog 45 #[.pointer (some ⟨b, 0, none⟩)] w fun e w' => e = .returned (.tuple #[]) ∧ w' = w.setCell ⟨b, 0, none⟩ (.pointer (some ⟨b, 0, none⟩)) := by
  obtain ⟨j, hj, hjs⟩ := Option.map_eq_some_iff.1 bd_size
  go_enter Try.func45, Try.ntmps45
  go_wp2
  rw [Lib.run_to_unsafe w ⟨b, 0, none⟩ Try.underlying55 Try.underlying84 hj (by rw [hjs]; decide) hsh (Nat.zero_lt_succ 1)]
  simp only [Result.andThen]
  rw [Oper.upon_value]
  go_wp2
  rw [run_callFunc_extern Try.func53 (by kernel_rfl) (by kernel_rfl) (by kernel_rfl) (e := Extern.AbiNoEscape.same) (by kernel_rfl)]
  rw [Lib.run_noEscape]
  simp only [Result.andThen]
  rw [Oper.upon_value]
  go_wp2
  rw [Lib.run_from_unsafe w ⟨b, 0, none⟩ Try.underlying84 Try.underlying55 hj hsh bd_lies]
  simp only [Result.andThen]
  rw [Oper.upon_value]
  go_wp2
  go_end0
  exact ⟨rfl, rfl⟩

theorem bd_check (b : Nat) (s : ByteArray) (w : World) (h : Bd b s w) :
    Calls Try.prog 45 #[.pointer (some ⟨b, 0, none⟩)] w fun e w' => e = .returned (.tuple #[]) ∧ Lib.BuilderAt 58 5 b b (.pointer (some ⟨b, 0, none⟩)) (Lib.strCells s) w' ∧ Below b w w' ∧ (∀ p a n, w'.heap[b]? ≠ some (.cells #[p, .slice (some a) n 0] 58 (0, 0))) := by
  have hz := h.2
  rcases h.1 with h | h
  · refine (bd_check_fresh b w h.cell0 h.shape h.frozen0).mono ?_
    rintro e w' ⟨rfl, rfl⟩
    refine ⟨rfl, h.used _, (Below.refl b w).setCell (p := ⟨b, 0, none⟩) h.1 _, fun p a n hc => ?_⟩
    obtain ⟨_, v, hb, _⟩ := h
    simp [World.setCell, Array.getElem?_modify, hb] at hc
    exact hz (.pointer none) a n (by rw [hb, hc.2])
  · refine (bd_check_used b w h.cell0).mono ?_
    rintro e w' ⟨rfl, rfl⟩
    exact ⟨rfl, h, Below.refl b _, hz⟩

theorem strCells_cat (s t : ByteArray) : Lib.strCells (s ++ t) = Lib.strCells s ++ Lib.strCells t := by
  simp [Lib.strCells, ByteArray.toList_data_append]


set_option maxHeartbeats 2000000 in
set_option maxRecDepth 100000 in
theorem bd_write (b : Nat) (t s : ByteArray) (w : World) (h : Bd b t w) (hlen : t.size + s.size ≤ 140737488355328) :
    Calls Try.prog 30 #[.pointer (some ⟨b, 0, none⟩), .string s] w fun e w' => e = .returned (.tuple #[.int .i64 s.size, .nilIface]) ∧ Bd b (t ++ s) w' ∧ Below b w w' := by
  obtain ⟨i0, hi, hz0, hz1, hz2⟩ := info_parts bd_byte
  have hbw := h.lt
  have e1 : ∀ args w, (callFunc 45 args).run Try.prog w = .ok (.enter 45 args) w := enters_of Try.func45 (by kernel_rfl) rfl
  go_enter Try.func30, Try.ntmps30
  go_wp2_with (go_at_fn 45; refine (bd_check b t _ h).mono ?_)
  rintro e w1 ⟨rfl, h1, hb1, hnz⟩
  obtain ⟨hB, v, hbk, hown, hne⟩ := h1
  have c0 : w1.cell? ⟨b, 0, none⟩ = some (.pointer (some ⟨b, 0, none⟩)) := by rw [Lib.cell_of_heap hbk]; rfl
  have c1 : w1.cell? ⟨b, 1, none⟩ = some v := by rw [Lib.cell_of_heap hbk]; rfl
  have hlt : b < w1.heap.size := Nat.lt_of_lt_of_le hbw hb1.size
  rw [Lib.strCells_length] at hown
  by_cases hs0 : s.size = 0
  · obtain ⟨ao, n, cap, rfl, hnc⟩ : ∃ ao n cap, v = .slice ao n cap ∧ n ≤ cap := by
      rcases hown.2 with ⟨hv, _⟩ | ⟨g, cap, cur, hv, _, _, hnc, _⟩
      · exact ⟨_, _, _, hv, by omega⟩
      · exact ⟨_, _, _, hv, hnc⟩
    have es : s = ⟨#[]⟩ := ByteArray.size_eq_zero_iff.1 hs0
    have et : t ++ s = t := by rw [es]; exact ByteArray.append_empty
    have happ : ∀ ty, (Builtin.append_ #[56, 9] ty #[.slice ao n cap, .string s]).run Try.prog w1 = .ok (.slice ao n cap) w1 := by
      intro ty
      have hf := Lib.run_firstCells_string (P := Try.prog) w1 1 s
      rw [hs0] at hf
      have hsc : Lib.strCells s = [] := by rw [es]; rfl
      rw [hsc] at hf
      have hr : n + 0 ≤ cap := by omega
      cases ao with
      | none => simp [Builtin.append_, run_underlying Try.underlying56, run_underlying Try.underlying9, sizeOf, typeInfo, hi, hz1, Builtin.lenOf, hs0, hnc, Nat.not_lt.2 hnc, hf, storeCells]
      | some a => simp [Builtin.append_, run_underlying Try.underlying56, run_underlying Try.underlying9, sizeOf, typeInfo, hi, hz1, Builtin.lenOf, hs0, hnc, Nat.not_lt.2 hnc, hf, storeCells]
    have f1 : w1.frozen? ⟨b, 1, none⟩ = false := Lib.frozen_of_heap hbk 1
    cases ao
    all_goals
      go_wp2
      first
        | go_ret2
        | (simp only [Sem.run_pure, Result.andThen]; rw [Oper.upon_value]; go_wp2; go_ret2)
      refine ⟨by rw [hs0]; rfl, ⟨.inr ?_, ?_⟩, hb1.setCell (p := ⟨b, 1, none⟩) hB _⟩
      · rw [et]
        refine Lib.BuilderAt.put (T := 58) (e := 5) hB hbk (bs' := Lib.strCells t) ?_ (by decide)
        rw [Lib.strCells_length]; exact hown
      · intro p a m hc
        simp [World.setCell, Array.getElem?_modify, hbk] at hc
        try
          refine hnz (.pointer (some ⟨b, 0, none⟩)) a m ?_
          rw [hbk]; simp [hc]
  · go_wp2_with (at_builtin; refine Lib.wpList_append_own_string _ rfl _ _ 56 9 rfl b 5 i0 Try.underlying56 Try.underlying9 hi hz0 hz1 hz2 _ _ _ rfl hown s rfl ?c3 ?c4 ?c5 ?_)
    case c3 => unfold maxLen; omega
    case c4 => omega
    case c5 => have := hb1.size; omega
    intro v' w2 hown' hgrow _
    have hb2 : w2.heap[b]? = some (.cells #[.pointer (some ⟨b, 0, none⟩), v] 58 (0, 0)) := by
      rw [hgrow.block b hlt (fun e => hne e.symm)]
      exact hbk
    have d0 : w2.cell? ⟨b, 0, none⟩ = some (.pointer (some ⟨b, 0, none⟩)) := by rw [Lib.cell_of_heap hb2]; rfl
    have d1 : w2.cell? ⟨b, 1, none⟩ = some v := by rw [Lib.cell_of_heap hb2]; rfl
    have f1 : w2.frozen? ⟨b, 1, none⟩ = false := Lib.frozen_of_heap hb2 1
    obtain ⟨g, cap, rfl, hcap⟩ : ∃ g cap, v' = .slice (some ⟨g, 0, none⟩) (t.size + s.size) cap ∧ t.size + s.size ≤ cap := by
      rcases hown'.2 with ⟨hv, h0⟩ | ⟨g, cap, cur, hv, _, _, hnc, _⟩
      · omega
      · exact ⟨_, _, hv, hnc⟩
    go_wp2
    go_ret2
    refine ⟨rfl, ⟨.inr (Lib.BuilderAt.put (T := 58) (e := 5) hB hb2 (bs' := Lib.strCells (t ++ s)) ?_ (by decide)), ?_⟩, ?_⟩
    · rw [strCells_cat]
      simpa [Lib.strCells_length] using hown'
    · intro p a m hc
      simp [World.setCell, Array.getElem?_modify, hb2] at hc
      omega
    · exact (hb1.grown hgrow (by have := hb1.size; omega) (fun k hk => (hown.lt k hk).1)).setCell (p := ⟨b, 1, none⟩) hB _

theorem bd_new {w w' : World} {b : Nat} {cs : List Value} (h : New w w' b (.cells cs.toArray 58 (0, 0))) (hc : cs = [.pointer none, .slice none 0 0]) : Bd b ⟨#[]⟩ w' := by
  subst hc
  refine ⟨.inl ⟨Nat.le_refl _, .slice none 0 0, h.blk, World.ownsRow_nil _ _ _ _, by simp [Value.ownBlock]⟩, fun p a n => ?_⟩
  rw [h.blk]
  simp

theorem x_call {P : Program} {l : List Value} {w w' : World} {o : Oper} {b : Builtin} {xs : Array Operand} {ats : Array TypeId} {vs : Array Value} {v : Value} (hv : xs.map (evL l) = vs) (ho : o.op = .call { callee := .builtin b, args := xs, argTypes := ats })
    (hr : (builtin b ats o.type (xs.map fun x => match x with | .const v => true | x => false) vs).run P w = .ok (.value v) w') : (execOp (evL l) o).run P w = .ok (.value v) w' := by
  subst hv
  unfold execOp
  simp only [ho, resolve, invoke, Sem.run_bind, Sem.run_pure, Result.andThen_ok]
  exact hr
/-- The class of worlds of String's region: the builder and its bytes as they were, frozen or not. -/
structure BdC (b : Nat) (w0 w : World) : Prop where
  low : Below b w0 w
  blk : w.heap[b]? = w0.heap[b]?
  shp : ∀ g, w.shape? g = w0.shape? g
  cel : ∀ a, w.cell? a = w0.cell? a
theorem BdC.freeze {b : Nat} {w0 w : World} (h : BdC b w0 w) (g n : Nat) (hb : b < g) : BdC b w0 (w.freeze ⟨g, 0, none⟩ n) := by
  have key : ∀ k : Nat, (w.freeze ⟨g, 0, none⟩ n).heap[k]? = w.heap[k]? ∨ ∃ (c : Array Value) (e : TypeId) (fz fz' : Nat × Nat), w.heap[k]? = some (Obj.cells c e fz) ∧ (w.freeze ⟨g, 0, none⟩ n).heap[k]? = some (Obj.cells c e fz') := by
    intro k
    unfold World.freeze
    split
    · exact .inl rfl
    · simp only [Array.getElem?_modify]
      split
      · rename_i hk
        cases hq : w.heap[k]? with
        | none => exact .inl rfl
        | some o =>
          cases o with
          | cells c e fz => exact .inr ⟨c, e, fz, _, rfl, by simp; rfl⟩
          | _ => exact .inl rfl
      · exact .inl rfl
  refine ⟨Lib.below_freeze h.low (p := ⟨g, 0, none⟩) (Nat.le_of_lt hb) n, ?_, fun k => ?_, fun a => ?_⟩
  · rw [← h.blk]
    unfold World.freeze
    split
    · rfl
    · simp only [Array.getElem?_modify]; rw [if_neg (by omega)]
  · rw [← h.shp k]
    unfold World.shape?
    rcases key k with h1 | ⟨c, e, fz, fz', h1, h2⟩
    · rw [h1]
    · rw [h1, h2]
  · rw [← h.cel a]
    unfold World.cell?
    rcases key a.block with h1 | ⟨c, e, fz, fz', h1, h2⟩
    · rw [h1]
    · rw [h1, h2]
noncomputable def cB (p : List Nat) : Code := sub (bodyOf Try.f32) p
set_option maxHeartbeats 2000000 in
theorem bd_string (b : Nat) (s : ByteArray) (w : World) (h : Bd b s w) :
    Calls Try.prog 32 #[.pointer (some ⟨b, 0, none⟩)] w fun e w' => e = .returned (.string s) ∧ Below b w w' := by
  have hbw := h.lt
  obtain ⟨p, hB, v, hbk, hown, hne⟩ : ∃ p, Lib.BuilderAt 58 5 b b p (Lib.strCells s) w := by
    rcases h.1 with h | h
    · exact ⟨_, h⟩
    · exact ⟨_, h⟩
  rw [Lib.strCells_length] at hown
  have hl : s.data.toList.length = s.size := Array.length_toList
  -- the row
  obtain ⟨A, cap, hv, q, hSD, hUS⟩ : ∃ A cap, v = .slice A s.size cap ∧ ∃ q, (∀ w', BdC b w w' → ∀ ts ty, (Builtin.unsafeSliceData_ ts ty #[.slice A s.size cap]).run Try.prog w' = .ok (.pointer q) w') ∧
      (∀ w', BdC b w w' → ∃ w2, (Builtin.unsafeString_ #[78, 3] 9 #[.pointer q, .int .i64 s.size]).run Try.prog w' = .ok (.string s) w2 ∧ BdC b w w2) := by
    have e0 : s.size = 0 → (ByteArray.empty = s) := fun h0 => (ByteArray.size_eq_zero_iff.1 h0).symm
    rcases hown.2 with ⟨hv, h0⟩ | ⟨g, cap, cur, hv, hbg, hg, hnc, hcm, hcs, htake⟩
    · refine ⟨none, 0, by rw [hv, h0], none, fun w' _ ts ty => rfl, fun w' hw' => ⟨w', ?_, hw'⟩⟩
      rw [h0, ← e0 h0]
      exact Lib.run_unsafeString_none w' _ _ _ none
    · have hc0 : cap ≠ 0 := by
        intro hc; subst hc; subst hv
        exact h.2 p _ _ hbk
      refine ⟨some ⟨g, 0, none⟩, cap, hv, some ⟨g, 0, none⟩, fun w' _ ts ty => Lib.run_unsafeSliceData_row _ _ _ _ _ _ hc0, fun w' hw' => ?_⟩
      by_cases h0 : s.size = 0
      · refine ⟨w', ?_, hw'⟩
        rw [h0, ← e0 h0]
        exact Lib.run_unsafeString_none w' _ _ _ _
      · have hgb : b < g := by
          rcases Nat.lt_or_eq_of_le hbg with h1 | h1
          · exact h1
          · subst h1; subst hv; simp [Value.ownBlock] at hne
        refine ⟨w'.freeze ⟨g, 0, none⟩ s.size, ?_, hw'.freeze g _ hgb⟩
        have hk := Lib.run_unsafeString_row (P := Try.prog) w' 78 3 9 5 Try.underlying78 (by kernel_rfl) g cur.size (by rw [hw'.shp g]; simp [World.shape?, hg]) s.data.toList (by intro hc; rw [hc] at hl; exact h0 hl.symm) (by omega) (by unfold maxLen at hcm; omega) (by
          intro j x hx
          rw [hw'.cel]
          have := hown.cells (g := g) (by rw [hv]; rfl) j (.int .u8 x.toNat) (by simp [Lib.strCells, hx])
          exact this)
        rw [hl] at hk
        exact hk
  subst hv
  have hcell : ∀ w', BdC b w w' → w'.cell? ((⟨b, 0, none⟩ : Addr).add 1) = some (.slice A s.size cap) := by
    intro w' hw'
    rw [hw'.cel, add_lit, Lib.cell_of_heap hbk]; rfl
  refine calls_of_runs (fn := Try.f32) (c := cB []) Try.func32 (by kernel_rfl) (al := [.pointer (some ⟨b, 0, none⟩)]) rfl (n := 13) rfl ?_
  refine sx_run 5 (todo' := [.code (cB [1, 0]), .code (cB [1, 1])]) (us := [(2, .string ⟨#[]⟩)]) (by kernel_rfl) ?_
  refine r_drawn (c := cB [1, 0]) (id := 1) (C := BdC b w)
    (vs := [.pointer (some ⟨b, 0, none⟩), .pointer (some ⟨b, 0, none⟩), .pointer (some ((⟨b, 0, none⟩ : Addr).add 1)), .slice A s.size cap, .pointer q, .pointer (some ⟨b, 0, none⟩), .pointer (some ⟨b, 0, none⟩), .pointer (some ((⟨b, 0, none⟩ : Addr).add 1)), .slice A s.size cap, .int .i64 s.size, .string s, .string s])
    (lf := [.pointer (some ⟨b, 0, none⟩), undef, .string s, .pointer (some ⟨b, 0, none⟩), .pointer (some ⟨b, 0, none⟩), .pointer (some ((⟨b, 0, none⟩ : Addr).add 1)), .slice A s.size cap, .pointer q, .pointer (some ⟨b, 0, none⟩), .pointer (some ⟨b, 0, none⟩), .pointer (some ((⟨b, 0, none⟩ : Addr).add 1)), .slice A s.size cap, .int .i64 s.size, .string s])
    (by kernel_rfl) (by kernel_rfl) (by kernel_rfl) (by kernel_rfl) (by kernel_rfl) ⟨(Below.refl b w).drew, rfl, fun _ => rfl, fun _ => rfl⟩ ?_ ?_
  · intro i hi w' hw'
    have hsz : (opsOf (cB [1, 0])).size = 12 := by kernel_rfl
    rw [hsz] at hi
    have cases12 : i = 0 ∨ i = 1 ∨ i = 2 ∨ i = 3 ∨ i = 4 ∨ i = 5 ∨ i = 6 ∨ i = 7 ∨ i = 8 ∨ i = 9 ∨ i = 10 ∨ i = 11 := by omega
    rcases cases12 with rfl | rfl | rfl | rfl | rfl | rfl | rfl | rfl | rfl | rfl | rfl | rfl
    · exact ⟨w', pureSem_run (by kernel_rfl), hw'⟩
    · exact ⟨w', pureSem_run (by kernel_rfl), hw'⟩
    · exact ⟨w', pureSem_run (by kernel_rfl), hw'⟩
    · exact ⟨w', x_load (t := 56) (x := .tmp 5) (p := (⟨b, 0, none⟩ : Addr).add 1) (by kernel_rfl) (loads1 (by kernel_rfl) (hcell w' hw')) (by kernel_rfl), hw'⟩
    · exact ⟨w', x_call (b := .unsafeSliceData) (xs := #[.tmp 6]) (ats := #[56]) (vs := #[.slice A s.size cap]) (by kernel_rfl) (by kernel_rfl) (by simp only [builtin, Sem.run_bind, hSD w' hw', Result.andThen_ok, Sem.run_pure]; rfl), hw'⟩
    · exact ⟨w', pureSem_run (by kernel_rfl), hw'⟩
    · exact ⟨w', pureSem_run (by kernel_rfl), hw'⟩
    · exact ⟨w', pureSem_run (by kernel_rfl), hw'⟩
    · exact ⟨w', x_load (t := 56) (x := .tmp 10) (p := (⟨b, 0, none⟩ : Addr).add 1) (by kernel_rfl) (loads1 (by kernel_rfl) (hcell w' hw')) (by kernel_rfl), hw'⟩
    · exact ⟨w', pureSem_run (by kernel_rfl), hw'⟩
    · obtain ⟨w2, hr, hw2⟩ := hUS w' hw'
      exact ⟨w2, x_call (b := .unsafeString) (xs := #[.tmp 7, .tmp 12]) (ats := #[78, 3]) (vs := #[.pointer q, .int .i64 s.size]) (by kernel_rfl) (by kernel_rfl) (by rw [show (opO (cB [1, 0]) 10).type = 9 from by kernel_rfl]; simp only [builtin, Sem.run_bind, hr, Result.andThen_ok, Sem.run_pure]; rfl), hw2⟩
    · exact ⟨w', pureSem_run (by kernel_rfl), hw'⟩
  · intro w' hw'
    refine runs_ret (fn := Try.f32) (v := .string s) Try.func32 (by kernel_rfl) ⟨rfl, hw'.low⟩
end Go.Proofs.Yteppciglfdiljaa.K
