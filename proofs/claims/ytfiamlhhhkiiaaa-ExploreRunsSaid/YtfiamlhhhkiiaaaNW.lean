/- Ranging over a map: whichever entry comes next. -/
import Derived.Test.YtfiamlhhhkiiaaaNM
import Derived.Maps.RangeRun
set_option linter.unusedVariables false
set_option linter.unusedSimpArgs false
namespace Go.Proofs.Ytfiamlhhhkiiaaa.K
open Go Go.RowKit Go.MapKept

/-- A map and an iterator over it: L is what is left; cur: the entry of the last step. -/
def xmr (b it : Nat) (m L : List (Value × Value)) (cur : Option (Value × Value)) : XObj where
  own := fun k => k = b ∨ k = it
  keeps := fun _ _ => False
  holds := fun w => b ≠ it ∧ ∃ es clock since seen c0, w.heap[b]? = some (.map es clock) ∧ pairs es = m ∧ WfM es clock ∧ w.heap[it]? = some (.mapIter (some b) since seen c0) ∧ (∀ x ∈ es.toList, x.born < since) ∧ since ≤ c0 ∧
    pairs (leftOf es seen) = L ∧ c0 = clock ∧ ∀ kv, cur = some kv → ∃ e ∈ es.toList, (e.key, e.val) = kv ∧ ∃ seen' : Array Nat, seen = seen'.push e.born
  stable := fun hb h => by
    obtain ⟨h0, es, clock, since, seen, c0, h1, h2, h3, h4, h5⟩ := h
    exact ⟨h0, es, clock, since, seen, c0, (hb b (.inl rfl)).trans h1, h2, h3, (hb it (.inr rfl)).trans h4, h5⟩
  there := fun h hb => by
    obtain ⟨h0, es, clock, since, seen, c0, h1, h2, h3, h4, h5⟩ := h
    rcases hb with rfl | rfl
    · exact heap_lt h1
    · exact heap_lt h4
/-- The answer of a loop over a map whose rounds turn nothing: b: what a round answers (inl: it goes on; inr: it leaves the loop with an answer), x: what is answered at the end. Where a round leaves the loop, no other round may leave it with another answer. -/
noncomputable def rngM {κ ν β : Type} (b : κ × ν → Option (Sum Unit β)) (x : Option β) : List (κ × ν) → Option β
  | [] => x
  | e :: L => (b e).bind fun
    | .inl _ => rngM b x L
    | .inr r => @ite _ (∀ e' ∈ L, b e' = some (.inl ()) ∨ b e' = some (.inr r)) (Classical.propDecidable _) (some r) none
section
variable {κ ν β : Type} {b : κ × ν → Option (Sum Unit β)} {x : Option β} {r : β}
theorem rng_nil (h : rngM b x [] = some r) : x = some r := h
theorem rng_step : ∀ {L : List (κ × ν)} {i : Nat} {e : κ × ν}, rngM b x L = some r → L[i]? = some e → ∃ q, b e = some q ∧ (q = .inl () ∧ rngM b x (L.eraseIdx i) = some r ∨ q = .inr r)
  | [], _, _, _, hi => by simp at hi
  | e0 :: L, i, e, h, hi => by
    unfold rngM at h
    cases hb : b e0 with
    | none => rw [hb] at h; cases h
    | some q0 =>
      rw [hb, Option.bind_some] at h
      cases i with
      | zero =>
        simp only [List.getElem?_cons_zero, Option.some.injEq] at hi
        subst hi
        refine ⟨q0, hb, ?_⟩
        cases q0 with
        | inl u => exact .inl ⟨rfl, h⟩
        | inr r0 =>
          simp only at h
          split at h
          · exact .inr (by rw [Option.some.inj h])
          · cases h
      | succ j =>
        simp only [List.getElem?_cons_succ] at hi
        cases q0 with
        | inl u =>
          obtain ⟨q, h1, h2⟩ := rng_step h hi
          refine ⟨q, h1, ?_⟩
          rcases h2 with ⟨rfl, h2⟩ | rfl
          · refine .inl ⟨rfl, ?_⟩
            rw [List.eraseIdx_cons_succ]
            unfold rngM
            rw [hb]; exact h2
          · exact .inr rfl
        | inr r0 =>
          simp only at h
          split at h
          · rename_i hall
            have e1 := Option.some.inj h
            subst e1
            rcases hall e (List.mem_of_getElem? hi) with h1 | h1
            · refine ⟨_, h1, .inl ⟨rfl, ?_⟩⟩
              rw [List.eraseIdx_cons_succ]
              unfold rngM
              rw [hb, Option.bind_some]
              simp only
              rw [if_pos (fun e' he' => hall e' (List.mem_of_mem_eraseIdx he'))]
            · exact ⟨_, h1, .inr rfl⟩
          · cases h
theorem rng_on {q : Sum Unit β} {z : Option β} (hq : q = .inl () ∧ z = some r ∨ q = .inr r) (h : Sum.inl () = q) : z = some r := by
  subst h
  rcases hq with ⟨_, h⟩ | h
  · exact h
  · cases h
theorem rng_out {q : Sum Unit β} {z : Option β} (hq : q = .inl () ∧ z = some r ∨ q = .inr r) : ∀ y, Sum.inr y = q → y = r := by
  intro y h
  subst h
  rcases hq with ⟨h, _⟩ | h
  · cases h
  · exact Sum.inr.inj h
theorem rng_ind {α : Type} {motive : List α → Prop} (h : ∀ L, (∀ i, i < L.length → motive (L.eraseIdx i)) → motive L) : ∀ L, motive L := by
  have : ∀ n (L : List α), L.length = n → motive L := by
    intro n
    induction n with
    | zero => intro L hL; exact h L (fun i hi => by omega)
    | succ n ih => intro L hL; exact h L (fun i hi => ih _ (by rw [List.length_eraseIdx]; rw [if_pos hi]; omega))
  exact fun L => this _ L rfl
/-- Every round answers .inl or leaves alike. -/
theorem rng_all {L : List (κ × ν)} (h : ∀ e ∈ L, b e = some (.inl ())) : rngM b x L = x := by
  induction L with
  | nil => rfl
  | cons e L ih =>
    unfold rngM
    rw [h e (List.mem_cons_self ..)]
    exact ih (fun e' he' => h e' (List.mem_cons_of_mem _ he'))
end
theorem leftOf_push {es : Array MapEntry} {clock : Nat} (hwf : WfM es clock) {seen : Array Nat} {e : MapEntry} (he : e ∈ (leftOf es seen).toList) : ∃ i, (leftOf es seen).toList[i]? = some e ∧ (leftOf es (seen.push e.born)).toList = (leftOf es seen).toList.eraseIdx i := by
  have key : ∀ l : List MapEntry, (l.map (·.born)).Nodup → e ∈ l.filter (fun x => !seen.contains x.born) → ∃ i, (l.filter (fun x => !seen.contains x.born))[i]? = some e ∧ l.filter (fun x => !(seen.push e.born).contains x.born) = (l.filter (fun x => !seen.contains x.born)).eraseIdx i := by
    intro l
    induction l with
    | nil => intro _ h; simp at h
    | cons y l ih =>
      intro hn hm
      rw [List.map_cons, List.nodup_cons] at hn
      have hpush : ∀ z : MapEntry, (!(seen.push e.born).contains z.born) = (!seen.contains z.born && !(z.born == e.born)) := by
        intro z
        simp only [Array.contains_push]
        cases seen.contains z.born <;> cases h : (z.born == e.born) <;> simp_all
      by_cases hy : seen.contains y.born = true
      · have e1 : (!seen.contains y.born) = false := by rw [hy]; rfl
        have e2 : (!(seen.push e.born).contains y.born) = false := by rw [hpush, e1]; rfl
        simp only [List.filter_cons, e1, e2, Bool.false_eq_true, if_false] at hm ⊢
        exact ih hn.2 hm
      · have e1 : (!seen.contains y.born) = true := by simpa using hy
        simp only [List.filter_cons, e1, if_true] at hm ⊢
        by_cases hb : y.born = e.born
        · have e2 : (!(seen.push e.born).contains y.born) = false := by rw [hpush, e1, hb]; simp
          simp only [e2, Bool.false_eq_true, if_false]
          have hye : y = e := by
            rcases List.mem_cons.1 hm with h | h
            · exact h.symm
            · exact absurd (List.mem_map.2 ⟨e, (List.mem_filter.1 h).1, hb.symm⟩) hn.1
          refine ⟨0, by simp [hye], ?_⟩
          rw [List.eraseIdx_cons_zero]
          refine List.filter_congr (fun z hz => ?_)
          rw [hpush]
          have : z.born ≠ e.born := fun h => hn.1 (by rw [hb, ← h]; exact List.mem_map.2 ⟨z, hz, rfl⟩)
          simp [this]
        · have e2 : (!(seen.push e.born).contains y.born) = true := by rw [hpush, e1]; simp [hb]
          simp only [e2, if_true]
          have hm2 : e ∈ l.filter (fun x => !seen.contains x.born) := by
            rcases List.mem_cons.1 hm with h | h
            · exact absurd (congrArg MapEntry.born h).symm hb
            · exact h
          obtain ⟨i, h1, h2⟩ := ih hn.2 hm2
          exact ⟨i + 1, by simpa using h1, by rw [List.eraseIdx_cons_succ, h2]⟩
  have e1 : ∀ s : Array Nat, (leftOf es s).toList = es.toList.filter (fun x => !s.contains x.born) := fun s => by unfold leftOf; rw [Array.toList_filter]
  rw [e1] at he
  obtain ⟨i, h1, h2⟩ := key es.toList hwf.1 he
  exact ⟨i, by rw [e1]; exact h1, by rw [e1, e1]; exact h2⟩
section
variable {P : Program} {f : Fx} {k : List Item} {l : List Value} {w w0 : World} {R : Ending → World → Prop} {c : Code} {i : Nat} {rest : List Nat} {d : Option Tmp} {ty : TypeId} {Z : Zm} {xs : List XObj} {b it : Nat} {m L : List (Value × Value)} {cur : Option (Value × Value)}
theorem St.mrShut (hS : St w0 Z (xmr b it m L cur :: xs) w) : St w0 Z (xmap b m :: xs) w := by
  obtain ⟨h0, es, clock, since, seen, c0, h1, h2, h3, h4⟩ := hS.hd
  exact hS.turn (X' := xmap b m) (FrP.refl _ _) ⟨es, clock, h1, h2, h3⟩ (fun q hq => .inl (.inl hq)) (fun _ _ _ _ h => h.elim) (fun _ _ _ _ h => h)
theorem St.mrOn (hS : St w0 Z (xmr b it m L cur :: xs) w) : St w0 Z (xmr b it m L none :: xs) w := by
  obtain ⟨h0, es, clock, since, seen, c0, h1, h2, h3, h4, h5, h6, h7, h8, h9⟩ := hS.hd
  exact hS.turn (X' := xmr b it m L none) (FrP.refl _ _) ⟨h0, es, clock, since, seen, c0, h1, h2, h3, h4, h5, h6, h7, h8, fun _ h => by cases h⟩ (fun q hq => .inl hq) (fun _ _ _ _ h => h.elim) (fun _ _ _ _ h => h)
theorem r_rangeM {t kt et : TypeId} {x : Operand} (hS : St w0 Z (xmap b m :: xs) w) (ho : opI c i = some (d, .range t x, ty)) (hw : wantI c l i = true) (hx : evL l x = .map (some b)) (hu : P.underlying t = some (.map kt et))
    (h : ∀ it w', St w0 Z (xmr b it m m none :: xs) w' → Runs P f (.inRegion (opsOf c) rest :: k) (putL l d (.pointer (some ⟨it, 0, none⟩))) w' R) : Runs P f (.inRegion (opsOf c) (i :: rest) :: k) l w R := by
  obtain ⟨es, clock, hb, hm, hwf⟩ := hS.hd
  have hlt := heap_lt hb
  refine r_val ho hw (fun o ho _ => ?_) (h w.heap.size (w.alloc (.mapIter (some b) clock #[] clock)) ?_)
  · unfold execOp
    simp only [ho, hx, Instr.range, Sem.run_bind, run_underlying hu, Result.andThen_ok, MapKept.run_getObj_map hb, Sem.run_pure, newObj, Sem.run]
    rfl
  · refine hS.turn (X' := xmr b w.heap.size m m none) ⟨rfl, rfl, rfl, ?_, fun j hj _ => (heap_alloc w _).2 j hj, Nat.le_refl _⟩ ⟨by omega, es, clock, clock, #[], clock, ?_, hm, hwf, (heap_alloc w _).1, hwf.2, Nat.le_refl _, ?_, rfl, fun _ h => by cases h⟩ (fun q hq => ?_) (fun _ _ _ _ h => h.elim) (fun _ _ _ _ h => h)
    · have : (w.alloc (.mapIter (some b) clock #[] clock)).heap = w.heap.push (.mapIter (some b) clock #[] clock) := rfl
      rw [this]; simp
    · rw [(heap_alloc w _).2 b hlt]; exact hb
    · rw [← hm]; unfold leftOf pairs
      have : es.filter (fun e => !(#[] : Array Nat).contains e.born) = es := Array.filter_eq_self.2 (fun x _ => by simp)
      rw [this]
    · rcases hq with rfl | rfl
      · exact .inl rfl
      · exact .inr (Nat.le_refl _)
theorem r_nextM {x : Operand} (hS : St w0 Z (xmr b it m L cur :: xs) w) (ho : opI c i = some (d, .next x false, ty)) (hw : wantI c l i = true) (hx : evL l x = .pointer (some ⟨it, 0, none⟩))
    (h0 : L = [] → Runs P f (.inRegion (opsOf c) rest :: k) (putL l d (.tuple #[.bool false])) w R)
    (h1 : ∀ j kv, L[j]? = some kv → ∀ w', St w0 Z (xmr b it m (L.eraseIdx j) (some kv) :: xs) w' → Runs P f (.inRegion (opsOf c) rest :: k) (putL l d (.tuple #[.bool true, kv.1, kv.2])) w' R) : Runs P f (.inRegion (opsOf c) (i :: rest) :: k) l w R := by
  obtain ⟨hne, es, clock, since, seen, c0, g1, g2, g3, g4, g5, g6, g7, g8, g9⟩ := hS.hd
  have hx2 : ∀ {o : Oper} {v : Value} {w' : World}, o.op = .next x false → (Instr.next (.pointer (some ⟨it, 0, none⟩)) false o.type).run P w = .ok v w' → (execOp (evL l) o).run P w = .ok (.value v) w' := by
    intro o v w' ho hr
    unfold execOp
    simp only [ho, hx, Sem.run_bind, hr, Result.andThen_ok, Sem.run_pure]
  rcases run_next_at (P := P) w ty it b since c0 seen es clock g4 g1 g5 g6 with ⟨hz, hr⟩ | ⟨e, he, w1, hw1, hr⟩
  · refine r_val ho hw (fun o ho hty => hx2 ho (by rw [hty]; exact hr)) (h0 ?_)
    rw [← g7]; unfold pairs
    have : (leftOf es seen).toList = [] := by rw [← List.length_eq_zero_iff, Array.length_toList]; exact hz
    rw [this]; rfl
  · obtain ⟨j, hj1, hj2⟩ := leftOf_push g3 he
    have hes : e ∈ es.toList := by
      have : (leftOf es seen).toList = es.toList.filter (fun x => !seen.contains x.born) := by unfold leftOf; rw [Array.toList_filter]
      rw [this] at he; exact (List.mem_filter.1 he).1
    refine r_val ho hw (fun o ho hty => hx2 ho (by rw [hty]; exact hr)) (h1 j (e.key, e.val) ?_ _ ?_)
    · rw [← g7]; unfold pairs; rw [List.getElem?_map, hj1]; rfl
    · have hS1 : St w0 Z (xmr b it m L cur :: xs) w1 := by
        rcases hw1 with rfl | rfl
        · exact hS
        · exact hS.drew
      have hh : w1.heap = w.heap := by rcases hw1 with rfl | rfl <;> rfl
      refine hS1.turn (X' := xmr b it m (L.eraseIdx j) (some (e.key, e.val))) ⟨rfl, rfl, rfl, by simp [ChangeMaps.setBlock], fun q hq hn => by simp [ChangeMaps.setBlock, show it ≠ q from fun h => hn (.inr h.symm)], Nat.le_refl _⟩ ⟨hne, es, clock, since, seen.push e.born, clock, ?_, g2, g3, ?_, g5, by omega, ?_, rfl, fun kv hkv => ⟨e, hes, Option.some.inj hkv, seen, rfl⟩⟩ (fun q hq => .inl hq) (fun _ _ _ _ h => h.elim) (fun _ _ _ _ h => h)
      · simp only [ChangeMaps.setBlock]
        rw [Array.getElem?_setIfInBounds_ne (Ne.symm hne), hh]; exact g1
      · have := heap_lt g4
        simp only [ChangeMaps.setBlock]
        rw [Array.getElem?_setIfInBounds_self_of_lt (by rw [hh]; exact this)]
      · rw [← g7]; unfold pairs; rw [hj2, erase_map]
theorem x_entryM {o : Oper} {x : Operand} {kv : Value × Value} (hh : (xmr b it m L (some kv)).holds w) (hx : evL l x = .pointer (some ⟨it, 0, none⟩)) (ho : o.op = .entry x) : (execOp (evL l) o).run P w = .ok (.value (.tuple #[kv.1, kv.2])) w := by
  obtain ⟨hne, es, clock, since, seen, c0, g1, g2, g3, g4, g5, g6, g7, g8, g9⟩ := hh
  obtain ⟨e, he, hkv, seen', hs⟩ := g9 kv rfl
  subst hs
  subst g8
  have hr := run_entry_at (P := P) w it b since seen' es c0 e g4 g1 he g3.1
  unfold execOp
  simp only [ho, hx, Sem.run_bind, hr, Result.andThen_ok, Sem.run_pure]
  rw [← hkv]
end
/-- Typed: an entry is a key and a value. -/
theorem kv_at {κ ν : Type} {eK : κ → Value} {eV : ν → Value} {L : List (κ × ν)} {j : Nat} {p : Value × Value} (h : (L.map (kv eK eV))[j]? = some p) : ∃ e, L[j]? = some e ∧ p = kv eK eV e ∧ j < L.length := by
  rw [List.getElem?_map] at h
  cases hL : L[j]? with
  | none => rw [hL] at h; cases h
  | some e => rw [hL] at h; exact ⟨e, rfl, (Option.some.inj h).symm, (List.getElem?_eq_some_iff.1 hL).1⟩
theorem kv_erase {κ ν : Type} {eK : κ → Value} {eV : ν → Value} {L : List (κ × ν)} {j : Nat} : (L.map (kv eK eV)).eraseIdx j = (L.eraseIdx j).map (kv eK eV) := by
  induction L generalizing j with
  | nil => rfl
  | cons e L ih => cases j with
    | zero => rfl
    | succ j => simp only [List.map_cons, List.eraseIdx_cons_succ, ih]
end Go.Proofs.Ytfiamlhhhkiiaaa.K
