/- Ranging over a map: whichever entry comes next. -/
import Derived.Test.YtcjaknnihjcajaaGreatNM
import Derived.Maps.RangeRun
set_option linter.unusedVariables false
set_option linter.unusedSimpArgs false
namespace Go.Proofs.YtcjaknnihjcajaaGreat.K
open Go Go.RowKit Go.MapKept
def xmr (b it : Nat) (m L : List (Value × Value)) (cur : Option (Value × Value)) : XObj where
 own := fun k => k = b ∨ k = it
 keeps := fun _ _ => False
 holds := fun w => b ≠ it ∧ ∃ es clock since seen c0, w.heap[b]? = some (.map es clock) ∧ pairs es = m ∧ WfM es clock ∧ w.heap[it]? = some (.mapIter (some b) since seen c0) ∧ (∀ x ∈ es.toList, x.born < since) ∧ since ≤ c0 ∧
  pairs (leftOf es seen) = L ∧ c0 = clock ∧ ∀ kv, cur = some kv → ∃ e ∈ es.toList, (e.key, e.val) = kv ∧ ∃ seen' : Array Nat, seen = seen'.push e.born
 stable := fun hb h => by
  obtain ⟨h0, es, clock, since, seen, c0, h1, h2, h3, h4, h5⟩ := h
  exact ⟨h0, es, clock, since, seen, c0, (hb b (.inl rfl)).trans h1, h2, h3, (hb it (.inr rfl)).trans h4, h5⟩
 there := fun h hb => by
  obtain ⟨h0, es, clock, since, seen, c0, h1, h2, h3, h4, h5⟩ := h
  rcases hb with rfl | rfl
  ·exact heap_lt h1
  ·exact heap_lt h4
section
variable {κ ν β : Type} {b : κ × ν → Option (Sum Unit β)} {x : Option β} {r : β}
theorem rng_ind {α : Type} {motive : List α → Prop} (h : ∀ L, (∀ i, i < L.length → motive (L.eraseIdx i)) → motive L) : ∀ L, motive L := by
 have : ∀ n (L : List α), L.length = n → motive L := by
  intro n
  induction n with
  | zero => intro L hL; exact h L (fun i hi => by omega)
  | succ n ih => intro L hL; exact h L (fun i hi => ih _ (by rw [List.length_eraseIdx]; rw [if_pos hi]; omega))
 exact fun L => this _ L rfl
end
/-! ### Rounds that turn a state: an answer counts if it is the same for every order -/
def RngAll {κ ν σ β : Type} (b : σ → κ × ν → Option (Sum σ β)) (x : σ → Option β) (r : β) : Nat → List (κ × ν) → σ → Prop
 | 0, L, s => L = [] ∧ x s = some r
 | n + 1, L, s => L.length = n + 1 ∧ ∀ i e, L[i]? = some e → ∃ q, b s e = some q ∧ ((∃ s', q = .inl s' ∧ RngAll b x r n (L.eraseIdx i) s') ∨ q = .inr r)
noncomputable def rngS {κ ν σ β : Type} (b : σ → κ × ν → Option (Sum σ β)) (x : σ → Option β) (L : List (κ × ν)) (s : σ) : Option β :=
 @dite _ (∃ r, RngAll b x r L.length L s) (Classical.propDecidable _) (fun h => some h.choose) (fun _ => none)
section
variable {κ ν σ β : Type} {b : σ → κ × ν → Option (Sum σ β)} {x : σ → Option β} {r : β}
theorem rngA_one : ∀ {n : Nat} {L : List (κ × ν)} {s : σ} {r r' : β}, RngAll b x r n L s → RngAll b x r' n L s → r = r'
  | 0, L, s, r, r', h, h' => Option.some.inj (h.2.symm.trans h'.2)
  | n + 1, L, s, r, r', h, h' => by
    have hl : 0 < L.length := by have := h.1; omega
    obtain ⟨q, e1, e2⟩ := h.2 0 _ (List.getElem?_eq_getElem hl)
    obtain ⟨q', f1, f2⟩ := h'.2 0 _ (List.getElem?_eq_getElem hl)
    rw [e1] at f1
    obtain rfl := Option.some.inj f1
    rcases e2 with ⟨s1, rfl, e2⟩ | rfl
    · rcases f2 with ⟨s2, f3, f2⟩ | f2
      · obtain rfl := Sum.inl.inj f3
        exact rngA_one e2 f2
      · cases f2
    · rcases f2 with ⟨s2, f3, f2⟩ | f2
      · cases f3
      · exact Sum.inr.inj f2
theorem rngS_of {L : List (κ × ν)} {s : σ} (h : RngAll b x r L.length L s) : rngS b x L s = some r := by
 unfold rngS
 have hx : ∃ r, RngAll b x r L.length L s := ⟨r, h⟩
 rw [dif_pos hx, rngA_one hx.choose_spec h]
theorem rngS_all {L : List (κ × ν)} {s : σ} (h : rngS b x L s = some r) : RngAll b x r L.length L s := by
 unfold rngS at h
 split at h
 ·rename_i hx
  rw [← Option.some.inj h]; exact hx.choose_spec
 ·cases h
theorem rngS_nil {s : σ} (h : rngS b x [] s = some r) : x s = some r := (rngS_all h).2
theorem rngS_step {L : List (κ × ν)} {i : Nat} {e : κ × ν} {s : σ} (h : rngS b x L s = some r) (hi : L[i]? = some e) : ∃ q, b s e = some q ∧ ((∃ s', q = .inl s' ∧ rngS b x (L.eraseIdx i) s' = some r) ∨ q = .inr r) := by
 have h1 := rngS_all h
 have hl := (List.getElem?_eq_some_iff.1 hi).1
 obtain ⟨n, hn⟩ : ∃ n, L.length = n + 1 := ⟨L.length - 1, by omega⟩
 rw [hn] at h1
 obtain ⟨q, e1, e2⟩ := h1.2 i e hi
 refine ⟨q, e1, ?_⟩
 rcases e2 with ⟨s', rfl, e2⟩ | rfl
 ·refine .inl ⟨s', rfl, rngS_of ?_⟩
  have : (L.eraseIdx i).length = n := by rw [List.length_eraseIdx, if_pos hl]; omega
  rw [this]; exact e2
 ·exact .inr rfl
theorem rngS_on {q : Sum σ β} {s1 : σ} {L : List (κ × ν)} (hq : (∃ s', q = .inl s' ∧ rngS b x L s' = some r) ∨ q = .inr r) (h : Sum.inl s1 = q) : rngS b x L s1 = some r := by
 subst h
 rcases hq with ⟨s', e, h⟩ | h
 ·rw [Sum.inl.inj e]; exact h
 ·cases h
theorem rngS_out {q : Sum σ β} {Q : σ → Prop} (hq : (∃ s', q = .inl s' ∧ Q s') ∨ q = .inr r) : ∀ y, Sum.inr y = q → y = r := by
 intro y h
 subst h
 rcases hq with ⟨s', e, h⟩ | h
 ·cases e
 ·exact Sum.inr.inj h
theorem rngS_ind {M : List (κ × ν) → σ → Prop} (h0 : ∀ s, M [] s → x s = some r) (h1 : ∀ L s i e, M L s → L[i]? = some e → ∃ s', b s e = some (.inl s') ∧ M (L.eraseIdx i) s') : ∀ {L : List (κ × ν)} {s : σ}, M L s → rngS b x L s = some r := by
  have key : ∀ n (L : List (κ × ν)) (s : σ), L.length = n → M L s → RngAll b x r n L s := by
    intro n
    induction n with
    | zero =>
      intro L s hl hm
      obtain rfl := List.eq_nil_of_length_eq_zero hl
      exact ⟨rfl, h0 s hm⟩
    | succ n ih =>
      intro L s hl hm
      refine ⟨hl, fun i e hi => ?_⟩
      obtain ⟨s', e1, e2⟩ := h1 L s i e hm hi
      have hlt := (List.getElem?_eq_some_iff.1 hi).1
      exact ⟨_, e1, .inl ⟨s', rfl, ih _ s' (by rw [List.length_eraseIdx, if_pos hlt]; omega) e2⟩⟩
  exact fun {L s} hm => rngS_of (key _ L s rfl hm)
end
theorem leftOf_push {es : Array MapEntry} {clock : Nat} (hwf : WfM es clock) {seen : Array Nat} {e : MapEntry} (he : e ∈ (leftOf es seen).toList) : ∃ i, (leftOf es seen).toList[i]? = some e ∧ (leftOf es (seen.push e.born)).toList = (leftOf es seen).toList.eraseIdx i := by
  have key : ∀ l : List MapEntry, (l.map (·.born)).Nodup → e ∈ l.filter (fun x => !seen.contains x.born) → ∃ i, (l.filter (fun x => !seen.contains x.born))[i]? = some e ∧ l.filter (fun x => !(seen.push e.born).contains x.born) = (l.filter (fun x => !seen.contains x.born)).eraseIdx i := by
    intro l
    induction l with
    | nil => intro _ h; simp at h
    | cons y l ih =>
      intro hn hm
      rw [List.map_cons, List.nodup_cons] at hn
      have hpush : ∀ z : MapEntry, (!(seen.push e.born).contains z.born) = (!seen.contains z.born && !(z.born == e.born)) := by
        intro z
        simp only [Array.contains_push]
        cases seen.contains z.born <;> cases h : (z.born == e.born) <;> simp_all
      by_cases hy : seen.contains y.born = true
      · have e1 : (!seen.contains y.born) = false := by rw [hy]; rfl
        have e2 : (!(seen.push e.born).contains y.born) = false := by rw [hpush, e1]; rfl
        simp only [List.filter_cons, e1, e2, Bool.false_eq_true, if_false] at hm ⊢
        exact ih hn.2 hm
      · have e1 : (!seen.contains y.born) = true := by simpa using hy
        simp only [List.filter_cons, e1, if_true] at hm ⊢
        by_cases hb : y.born = e.born
        · have e2 : (!(seen.push e.born).contains y.born) = false := by rw [hpush, e1, hb]; simp
          simp only [e2, Bool.false_eq_true, if_false]
          have hye : y = e := by
            rcases List.mem_cons.1 hm with h | h
            · exact h.symm
            · exact absurd (List.mem_map.2 ⟨e, (List.mem_filter.1 h).1, hb.symm⟩) hn.1
          refine ⟨0, by simp [hye], ?_⟩
          rw [List.eraseIdx_cons_zero]
          refine List.filter_congr (fun z hz => ?_)
          rw [hpush]
          have : z.born ≠ e.born := fun h => hn.1 (by rw [hb, ← h]; exact List.mem_map.2 ⟨z, hz, rfl⟩)
          simp [this]
        · have e2 : (!(seen.push e.born).contains y.born) = true := by rw [hpush, e1]; simp [hb]
          simp only [e2, if_true]
          have hm2 : e ∈ l.filter (fun x => !seen.contains x.born) := by
            rcases List.mem_cons.1 hm with h | h
            · exact absurd (congrArg MapEntry.born h).symm hb
            · exact h
          obtain ⟨i, h1, h2⟩ := ih hn.2 hm2
          exact ⟨i + 1, by simpa using h1, by rw [List.eraseIdx_cons_succ, h2]⟩
  have e1 : ∀ s : Array Nat, (leftOf es s).toList = es.toList.filter (fun x => !s.contains x.born) := fun s => by unfold leftOf; rw [Array.toList_filter]
  rw [e1] at he
  obtain ⟨i, h1, h2⟩ := key es.toList hwf.1 he
  exact ⟨i, by rw [e1]; exact h1, by rw [e1, e1]; exact h2⟩
section
variable {P : Program} {f : Fx} {k : List Item} {l : List Value} {w w0 : World} {R : Ending → World → Prop} {c : Code} {i : Nat} {rest : List Nat} {d : Option Tmp} {ty : TypeId} {Z : Zm} {xs : List XObj} {b it : Nat} {m L : List (Value × Value)} {cur : Option (Value × Value)}
theorem St.mrShut (hS : St w0 Z (xmr b it m L cur :: xs) w) : St w0 Z (xmap b m :: xs) w := by
 obtain ⟨h0, es, clock, since, seen, c0, h1, h2, h3, h4⟩ := hS.hd
 exact hS.turn (X' := xmap b m) (FrP.refl _ _) ⟨es, clock, h1, h2, h3⟩ (fun q hq => .inl (.inl hq)) (fun _ _ _ _ h => h.elim) (fun _ _ _ _ h => h)
theorem St.mrOn (hS : St w0 Z (xmr b it m L cur :: xs) w) : St w0 Z (xmr b it m L none :: xs) w := by
 obtain ⟨h0, es, clock, since, seen, c0, h1, h2, h3, h4, h5, h6, h7, h8, h9⟩ := hS.hd
 exact hS.turn (X' := xmr b it m L none) (FrP.refl _ _) ⟨h0, es, clock, since, seen, c0, h1, h2, h3, h4, h5, h6, h7, h8, fun _ h => by cases h⟩ (fun q hq => .inl hq) (fun _ _ _ _ h => h.elim) (fun _ _ _ _ h => h)
theorem r_rangeM {t kt et : TypeId} {x : Operand} (hS : St w0 Z (xmap b m :: xs) w) (ho : opI c i = some (d, .range t x, ty)) (hw : wantI c l i = true) (hx : evL l x = .map (some b)) (hu : P.underlying t = some (.map kt et))
  (h : ∀ it w', St w0 Z (xmr b it m m none :: xs) w' → Runs P f (.inRegion (opsOf c) rest :: k) (putL l d (.pointer (some ⟨it, 0, none⟩))) w' R) : Runs P f (.inRegion (opsOf c) (i :: rest) :: k) l w R := by
 obtain ⟨es, clock, hb, hm, hwf⟩ := hS.hd
 have hlt := heap_lt hb
 refine r_val ho hw (fun o ho _ => ?_) (h w.heap.size (w.alloc (.mapIter (some b) clock #[] clock)) ?_)
 ·unfold execOp
  simp only [ho, hx, Instr.range, Sem.run_bind, run_underlying hu, Result.andThen_ok, MapKept.run_getObj_map hb, Sem.run_pure, newObj, Sem.run]
  rfl
 ·refine hS.turn (X' := xmr b w.heap.size m m none) ⟨rfl, rfl, rfl, ?_, fun j hj _ => (heap_alloc w _).2 j hj, Nat.le_refl _⟩ ⟨by omega, es, clock, clock, #[], clock, ?_, hm, hwf, (heap_alloc w _).1, hwf.2, Nat.le_refl _, ?_, rfl, fun _ h => by cases h⟩ (fun q hq => ?_) (fun _ _ _ _ h => h.elim) (fun _ _ _ _ h => h)
  ·have : (w.alloc (.mapIter (some b) clock #[] clock)).heap = w.heap.push (.mapIter (some b) clock #[] clock) := rfl
   rw [this]; simp
  ·rw [(heap_alloc w _).2 b hlt]; exact hb
  ·rw [← hm]; unfold leftOf pairs
   have : es.filter (fun e => !(#[] : Array Nat).contains e.born) = es := Array.filter_eq_self.2 (fun x _ => by simp)
   rw [this]
  ·rcases hq with rfl | rfl
   ·exact .inl rfl
   ·exact .inr (Nat.le_refl _)
theorem r_nextM {x : Operand} (hS : St w0 Z (xmr b it m L cur :: xs) w) (ho : opI c i = some (d, .next x false, ty)) (hw : wantI c l i = true) (hx : evL l x = .pointer (some ⟨it, 0, none⟩))
  (h0 : L = [] → Runs P f (.inRegion (opsOf c) rest :: k) (putL l d (.tuple #[.bool false])) w R)
  (h1 : ∀ j kv, L[j]? = some kv → ∀ w', St w0 Z (xmr b it m (L.eraseIdx j) (some kv) :: xs) w' → Runs P f (.inRegion (opsOf c) rest :: k) (putL l d (.tuple #[.bool true, kv.1, kv.2])) w' R) : Runs P f (.inRegion (opsOf c) (i :: rest) :: k) l w R := by
 obtain ⟨hne, es, clock, since, seen, c0, g1, g2, g3, g4, g5, g6, g7, g8, g9⟩ := hS.hd
 have hx2 : ∀ {o : Oper} {v : Value} {w' : World}, o.op = .next x false → (Instr.next (.pointer (some ⟨it, 0, none⟩)) false o.type).run P w = .ok v w' → (execOp (evL l) o).run P w = .ok (.value v) w' := by
  intro o v w' ho hr
  unfold execOp
  simp only [ho, hx, Sem.run_bind, hr, Result.andThen_ok, Sem.run_pure]
 rcases run_next_at (P := P) w ty it b since c0 seen es clock g4 g1 g5 g6 with ⟨hz, hr⟩ | ⟨e, he, w1, hw1, hr⟩
 ·refine r_val ho hw (fun o ho hty => hx2 ho (by rw [hty]; exact hr)) (h0 ?_)
  rw [← g7]; unfold pairs
  have : (leftOf es seen).toList = [] := by rw [← List.length_eq_zero_iff, Array.length_toList]; exact hz
  rw [this]; rfl
 ·obtain ⟨j, hj1, hj2⟩ := leftOf_push g3 he
  have hes : e ∈ es.toList := by
   have : (leftOf es seen).toList = es.toList.filter (fun x => !seen.contains x.born) := by unfold leftOf; rw [Array.toList_filter]
   rw [this] at he; exact (List.mem_filter.1 he).1
  refine r_val ho hw (fun o ho hty => hx2 ho (by rw [hty]; exact hr)) (h1 j (e.key, e.val) ?_ _ ?_)
  ·rw [← g7]; unfold pairs; rw [List.getElem?_map, hj1]; rfl
  ·have hS1 : St w0 Z (xmr b it m L cur :: xs) w1 := by
    rcases hw1 with rfl | rfl
    ·exact hS
    ·exact hS.drew
   have hh : w1.heap = w.heap := by rcases hw1 with rfl | rfl <;> rfl
   refine hS1.turn (X' := xmr b it m (L.eraseIdx j) (some (e.key, e.val))) ⟨rfl, rfl, rfl, by simp [ChangeMaps.setBlock], fun q hq hn => by simp [ChangeMaps.setBlock, show it ≠ q from fun h => hn (.inr h.symm)], Nat.le_refl _⟩ ⟨hne, es, clock, since, seen.push e.born, clock, ?_, g2, g3, ?_, g5, by omega, ?_, rfl, fun kv hkv => ⟨e, hes, Option.some.inj hkv, seen, rfl⟩⟩ (fun q hq => .inl hq) (fun _ _ _ _ h => h.elim) (fun _ _ _ _ h => h)
   ·simp only [ChangeMaps.setBlock]
    rw [Array.getElem?_setIfInBounds_ne (Ne.symm hne), hh]; exact g1
   ·have := heap_lt g4
    simp only [ChangeMaps.setBlock]
    rw [Array.getElem?_setIfInBounds_self_of_lt (by rw [hh]; exact this)]
   ·rw [← g7]; unfold pairs; rw [hj2, erase_map]
theorem x_entryM {o : Oper} {x : Operand} {kv : Value × Value} (hh : (xmr b it m L (some kv)).holds w) (hx : evL l x = .pointer (some ⟨it, 0, none⟩)) (ho : o.op = .entry x) : (execOp (evL l) o).run P w = .ok (.value (.tuple #[kv.1, kv.2])) w := by
 obtain ⟨hne, es, clock, since, seen, c0, g1, g2, g3, g4, g5, g6, g7, g8, g9⟩ := hh
 obtain ⟨e, he, hkv, seen', hs⟩ := g9 kv rfl
 subst hs
 subst g8
 have hr := run_entry_at (P := P) w it b since seen' es c0 e g4 g1 he g3.1
 unfold execOp
 simp only [ho, hx, Sem.run_bind, hr, Result.andThen_ok, Sem.run_pure]
 rw [← hkv]
end
theorem kv_at {κ ν : Type} {eK : κ → Value} {eV : ν → Value} {L : List (κ × ν)} {j : Nat} {p : Value × Value} (h : (L.map (kv eK eV))[j]? = some p) : ∃ e, L[j]? = some e ∧ p = kv eK eV e ∧ j < L.length := by
 rw [List.getElem?_map] at h
 cases hL : L[j]? with
 | none => rw [hL] at h; cases h
 | some e => rw [hL] at h; exact ⟨e, rfl, (Option.some.inj h).symm, (List.getElem?_eq_some_iff.1 hL).1⟩
theorem kv_erase {κ ν : Type} {eK : κ → Value} {eV : ν → Value} {L : List (κ × ν)} {j : Nat} : (L.map (kv eK eV)).eraseIdx j = (L.eraseIdx j).map (kv eK eV) := by
  induction L generalizing j with
  | nil => rfl
  | cons e L ih => cases j with
    | zero => rfl
    | succ j => simp only [List.map_cons, List.eraseIdx_cons_succ, ih]
end Go.Proofs.YtcjaknnihjcajaaGreat.K
