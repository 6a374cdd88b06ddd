/- The engine's append, literals, bytes and strings. -/
import Derived.Test.YteppciglfdiljaaK2
import Derived.Laws.AppendOwn
import Derived.Laws.BytesArg
set_option linter.unusedVariables false
set_option linter.unusedSimpArgs false
namespace Go.Proofs.Yteppciglfdiljaa.K
open Go Go.RowKit

/-! ### append -/
section
variable {P : Program} {α : Type} {enc : α → List Value} {e : TypeId} {sz B : Nat} {w : World} {A : Option Addr} {c : Nat} {xs ys : List α}
theorem append_own {t ty : TypeId} {i : TypeInfo} {z : Value} {bytes : Nat} (ht : P.underlying t = some (.slice e)) (hi : P.info? e = some i) (hz : i.zero = some z) (hsize : i.size = sz) (hby : i.bytes = bytes) (hzs : z.cells.size = sz) (hsz : 0 < sz)
    (hO : SlO enc e sz B w A c xs) (hB : B ≤ w.heap.size) {a : Addr} {c2 : Nat} (hc : ∀ j v, (ys.flatMap enc)[j]? = some v → w.cell? (a.add j) = some v) (hul : ∀ y ∈ ys, (enc y).length = sz) (h1 : ∀ y ∈ ys, (enc y).all Value.oneCell' = true)
    (hbytes : (xs.length + ys.length) * bytes ≤ 140737488355328) (hb1 : 0 < bytes) :
    ∃ A' c' w', (Builtin.append_ #[t, t] ty #[.slice A xs.length c, .slice (some a) ys.length c2]).run P w = .ok (.slice A' (xs ++ ys).length c') w' ∧ SlO enc e sz B w' A' c' (xs ++ ys) ∧ Fr (A.map Addr.block).toList w w' ∧
      (∀ a', A' = some a' → (∃ a0, A = some a0 ∧ a'.block = a0.block) ∨ w.heap.size ≤ a'.block) := by
  have hmul : xs.length + ys.length ≤ (xs.length + ys.length) * bytes := Nat.le_mul_of_pos_right _ hb1
  have hsmall : xs.length + ys.length ≤ 140737488355328 := Nat.le_trans hmul hbytes
  have hly : (ys.flatMap enc).length = ys.length * i.size := by
    rw [hsize]; clear hbytes hmul hsmall h1 hc
    induction ys with
    | nil => simp
    | cons y ys ih => rw [List.flatMap_cons, List.length_append, ih (fun z hz => hul z (by simp [hz])), hul y (by simp), List.length_cons, Nat.add_mul]; omega
  have hlx : (xs.flatMap enc).length = xs.length * i.size := by rw [hsize]; exact hO.own.1
  have hulall : ∀ x ∈ xs ++ ys, (enc x).length = sz := by
    intro x hx; rcases List.mem_append.1 hx with h | h
    · exact hO.ul x h
    · exact hul x h
  have h1' : ∀ u ∈ ys.flatMap enc, u.oneCell' = true := by
    intro u hu; obtain ⟨y, hy, hu⟩ := List.mem_flatMap.1 hu; exact List.all_eq_true.1 (h1 y hy) u hu
  have hlen : ((xs ++ ys).flatMap enc).length = (xs ++ ys).length * sz := by rw [List.flatMap_append, List.length_append, hlx, hly, hsize, List.length_append, Nat.add_mul]
  -- a new row
  have mk : ∀ (old : Nat), old < xs.length + ys.length → SlO enc e sz B (w.drew.alloc (.cells ((xs.flatMap enc).toArray ++ (ys.flatMap enc).toArray ++ Builtin.zeroCells z.cells (grownCap w (xs.length + ys.length) old e - (xs.length + ys.length))) e)) (some ⟨w.heap.size, 0, none⟩) (grownCap w (xs.length + ys.length) old e) (xs ++ ys) := by
    intro old ho
    have hge := grownCap_ge w (xs.length + ys.length) old e
    have hcm : grownCap w (xs.length + ys.length) old e ≤ maxLen := grownCap_le_maxLen w _ old e (by simp only [maxLen]; omega)
    refine ⟨⟨hlen, .inr ⟨w.heap.size, _, _, rfl, hB, heap_alloc_new w.drew _, by rw [List.length_append]; exact hge, hcm, ?_, ?_⟩⟩, hulall⟩
    · simp only [Array.size_append, List.size_toArray, size_zeroCells, hzs, hlx, hly, hsize, ← Nat.add_mul]
      congr 1; omega
    · simp only [Array.toList_append, List.append_assoc]
      rw [← List.append_assoc, List.take_left' (by rw [List.length_append, hlx, hly, hsize, List.length_append, Nat.add_mul])]
      rw [List.flatMap_append]
  have frn : ∀ o, Fr (A.map Addr.block).toList w (w.drew.alloc o) := fun o => ⟨rfl, rfl, rfl, by simp, fun k hk _ => Below.heap_alloc w.drew o k hk⟩
  rcases hO.own.2 with ⟨hv, hx0⟩ | ⟨g, cap, cur, hv, hbg, hg, hnc, hcm, hcs, htake⟩
  · simp only [Value.slice.injEq] at hv
    obtain ⟨rfl, -, rfl⟩ := hv
    have hxn : xs = [] := List.eq_nil_of_length_eq_zero hx0
    subst hxn
    by_cases hm : ys.length = 0
    · have hyn : ys = [] := List.eq_nil_of_length_eq_zero hm
      subst hyn
      refine ⟨none, 0, w, ?_, SlO.none enc e sz B w, Fr.refl _ _, by simp⟩
      simp [Builtin.append_, run_underlying ht, sizeOf, typeInfo, hi, Builtin.lenOf, Builtin.firstCells, loadCells, loadCellsFrom]
    · have hr := run_append_nil (P := P) w t ty e i z ht hi hz a ys.length c2 (ys.flatMap enc) hly hc (by omega) (by simp at hsmall; omega) (by rw [hby]; simp only [List.length_nil, Nat.zero_add] at hbytes; omega)
      have hk := mk 0 (by simp; omega)
      simp only [List.length_nil, Nat.zero_add, List.nil_append, List.flatMap_nil, Array.empty_append] at hk hr ⊢
      exact ⟨_, _, _, hr, hk, frn _, fun a' ha' => .inr (by cases ha'; exact Nat.le_refl _)⟩
  · simp only [Value.slice.injEq] at hv
    obtain ⟨rfl, -, rfl⟩ := hv
    by_cases hroom : xs.length + ys.length ≤ c
    · have hfit : xs.length * i.size + (ys.flatMap enc).length ≤ cur.size := by rw [hly, hcs, ← hsize, ← Nat.add_mul]; exact Nat.mul_le_mul_right _ hroom
      have hr := run_append_room (P := P) w t ty e i ht hi g xs.length c cur hg a ys.length c2 (ys.flatMap enc) hly hc h1' hroom hfit
      rw [show xs.length + ys.length = (xs ++ ys).length from (List.length_append).symm] at hr
      refine ⟨_, _, _, hr, ⟨⟨hlen, .inr ⟨g, c, _, rfl, hbg, setRow_heap w g cur _ e _ hg, by rw [List.length_append]; exact hroom, hcm, ?_, ?_⟩⟩, hulall⟩, ⟨rfl, rfl, rfl, by simp [World.setRow], fun k _ hk => setRow_other w g k _ (fun e => hk (by simp [e]))⟩, fun a' ha' => .inl ⟨_, rfl, by cases ha'; rfl⟩⟩
      · simp only [List.size_toArray, List.length_append, List.length_take, List.length_drop, Array.length_toList]
        omega
      · simp only [hsize] at htake ⊢
        rw [htake, List.flatMap_append, List.take_left' (by rw [List.length_append, hlx, hly, hsize, List.length_append, Nat.add_mul])]
    · have holds : ∀ j u, (xs.flatMap enc)[j]? = some u → w.cell? ((⟨g, 0, none⟩ : Addr).add j) = some u := hO.own.cells (g := g) rfl
      have hr := run_append_grow (P := P) w t ty e i z ht hi hz ⟨g, 0, none⟩ xs.length c (xs.flatMap enc) hlx holds a ys.length c2 (ys.flatMap enc) hly hc (by omega) (by omega) (growslice_fits (by omega) (by rw [hby]; exact hbytes))
      have hk := mk c (by omega)
      rw [show (.slice (some ⟨w.heap.size, 0, none⟩) (xs.length + ys.length) (grownCap w (xs.length + ys.length) c e) : Value) = .slice (some ⟨w.heap.size, 0, none⟩) (xs ++ ys).length (grownCap w (xs.length + ys.length) c e) from by rw [List.length_append]] at hr
      exact ⟨_, _, _, hr, hk, frn _, fun a' ha' => .inr (by cases ha'; exact Nat.le_refl _)⟩
end

section
variable {P : Program} {f : FuncId} {k : List Item} {l : List Value} {w : World} {R : Ending → World → Prop} {c : Code} {i : Nat} {rest : List Nat} {d : Option Tmp} {ty : TypeId}
theorem x_append {o : Oper} {s x : Operand} {t : TypeId} {v v' u : Value} {w' : World} (hs : evL l s = v) (hx : evL l x = u) (hr : (Builtin.append_ #[t, t] o.type #[v, u]).run P w = .ok v' w')
    (ho : o.op = .call { callee := .builtin .append, args := #[s, x], argTypes := #[t, t] }) : (execOp (evL l) o).run P w = .ok (.value v') w' := by
  unfold execOp
  simp only [ho, resolve, invoke, builtin, Sem.run_bind, Sem.run_pure, Result.andThen_ok, List.map_toArray, List.map_cons, List.map_nil, hs, hx, hr]
/-- append(s, ys..) onto a row of the call's own. -/
theorem r_append {α : Type} {enc : α → List Value} {e t : TypeId} {sz B cp : Nat} {A : Option Addr} {xs ys : List α} {s x : Operand} {info : TypeInfo} {z : Value} {bytes : Nat} {a : Addr} {c2 : Nat}
    (ho : opI c i = some (d, .call { callee := .builtin .append, args := #[s, x], argTypes := #[t, t] }, ty)) (hw : wantI c l i = true) (hs : evL l s = .slice A xs.length cp) (hx : evL l x = .slice (some a) ys.length c2)
    (ht : P.underlying t = some (.slice e)) (hi : P.info? e = some info) (hz : info.zero = some z) (hsize : info.size = sz) (hby : info.bytes = bytes) (hzs : z.cells.size = sz) (hsz : 0 < sz)
    (hO : SlO enc e sz B w A cp xs) (hB : B ≤ w.heap.size) (hc : ∀ j v, (ys.flatMap enc)[j]? = some v → w.cell? (a.add j) = some v) (hul : ∀ y ∈ ys, (enc y).length = sz) (h1 : ∀ y ∈ ys, (enc y).all Value.oneCell' = true)
    (hbytes : (xs.length + ys.length) * bytes ≤ 140737488355328) (hb1 : 0 < bytes)
    (h : ∀ A' c' w', SlO enc e sz B w' A' c' (xs ++ ys) → Fr (A.map Addr.block).toList w w' → (∀ a', A' = some a' → (∃ a0, A = some a0 ∧ a'.block = a0.block) ∨ w.heap.size ≤ a'.block) →
      Runs P f (.inRegion (opsOf c) rest :: k) (putL l d (.slice A' (xs ++ ys).length c')) w' R) : Runs P f (.inRegion (opsOf c) (i :: rest) :: k) l w R := by
  obtain ⟨A', c', w', hr, hO', hf, hrel⟩ := append_own (P := P) (ty := ty) (c2 := c2) ht hi hz hsize hby hzs hsz hO hB hc hul h1 hbytes hb1
  exact r_val ho hw (fun o hop hty => by subst hty; exact x_append hs hx hr hop) (h A' c' w' hO' hf hrel)

/-! ### A literal's row -/
theorem x_buildSlice {o : Oper} {t e : TypeId} {n sz : Nat} {parts : Array (Nat × Operand)} {zs : Array Value} {vs : List (Nat × Value)} {cs : Array Value} (hu : P.underlying t = some (.slice e)) (hs : pureSem P (sizeOf e) = some sz) (hn : n * sz ≤ 2 ^ 24) (hn0 : n * sz ≠ 0)
    (hz : pureSem P (zeroValue e) = some zs[0]!) (hv : (parts.map fun p => (p.1, evL l p.2)) = vs.toArray)
    (hf : Instr.fill (fun i => some (i * sz, sz)) ((Array.range (n * sz)).map (zs[0]!.cells[· % zs[0]!.cells.size]!)) vs = some cs) (ho : o.op = .buildSlice t n parts) :
    (execOp (evL l) o).run P w = .ok (.value (.slice (some ⟨w.heap.size, 0, none⟩) n n)) { w with heap := w.heap.push (.cells cs e) } := by
  have hn' : ¬ (n * sz > 2 ^ 24) := by omega
  unfold execOp
  simp only [ho, Instr.buildSlice, Sem.run_bind, run_underlying hu, Result.andThen_ok, pureSem_run hs, hn', if_false, hn0, pureSem_run hz, Sem.run_pure]
  rw [show (Array.map (fun x => (x.fst, evL l x.snd)) parts).toList = vs from by rw [hv]]
  rw [hf]
  simp [newRow, newObj, Sem.run]
theorem fill_one {sz : Nat} {cells : Array Value} {v : Value} {cs : List Value} (hv : v.cells = cs.toArray) (hl : cs.length = sz) (hc : cells.size = sz) : Instr.fill (fun i => some (i * sz, sz)) cells [(0, v)] = some cs.toArray := by
  have key : ∀ (us : List Value) (k : Nat) (pre : List Value) (post : List Value), post.length = us.length → pre.length = k →
      (us.zipIdx k).foldl (fun cs (c, j) => cs.setIfInBounds (0 + j) c) (pre ++ post).toArray = (pre ++ us).toArray := by
    intro us
    induction us with
    | nil => intro k pre post h _; have : post = [] := List.eq_nil_of_length_eq_zero (by simpa using h); subst this; rfl
    | cons u us ih =>
      intro k pre post h hk
      cases post with
      | nil => simp at h
      | cons p post =>
        simp only [List.zipIdx_cons, List.foldl_cons, Nat.zero_add]
        have : (pre ++ p :: post).toArray.setIfInBounds k u = ((pre ++ [u]) ++ post).toArray := by
          subst hk
          simp
        rw [this, show (fun (cs : Array Value) (x : Value × Nat) => cs.setIfInBounds x.2 x.1) = (fun cs (c, j) => cs.setIfInBounds (0 + j) c) from by funext a b; simp]
        rw [ih (k + 1) (pre ++ [u]) post (by simpa using h) (by simp [hk])]
        simp
  unfold Instr.fill
  simp only [hv, List.size_toArray, Nat.zero_mul, Nat.zero_add]
  rw [if_neg (by rw [hl, hc]; simp)]
  simp only [Instr.fill]
  congr 1
  rw [← Array.foldl_toList]
  have := key cs 0 [] cells.toList (by simp [hl, hc]) rfl
  simpa using this
/-- A literal of one element. -/
theorem r_lit1 {t e : TypeId} {sz : Nat} {x : Operand} {v z : Value} {cs : List Value} (ho : opI c i = some (d, .buildSlice t 1 #[(0, x)], ty)) (hw : wantI c l i = true) (hx : evL l x = v) (hu : P.underlying t = some (.slice e)) (hs : pureSem P (sizeOf e) = some sz) (hsz : 0 < sz ∧ sz ≤ 2 ^ 24)
    (hz : pureSem P (zeroValue e) = some z) (hv : v.cells = cs.toArray) (hl : cs.length = sz)
    (h : ∀ b w', New w w' b (.cells cs.toArray e (0, 0)) → Runs P f (.inRegion (opsOf c) rest :: k) (putL l d (.slice (some ⟨b, 0, none⟩) 1 1)) w' R) : Runs P f (.inRegion (opsOf c) (i :: rest) :: k) l w R :=
  r_val ho hw (fun o ho _ => x_buildSlice (zs := #[z]) (vs := [(0, v)]) hu hs (by omega) (by omega) hz (by simp [hx]) (fill_one hv hl (by simp)) ho) (h _ _ (new_alloc w _))
end
theorem lit1_cells {α : Type} {enc : α → List Value} {w : World} {a : Addr} {x : α} (h : Cells w a (enc x)) : ∀ j v, ([x].flatMap enc)[j]? = some v → w.cell? (a.add j) = some v := fun j v hj => h j v (by simpa using hj)
theorem SlR.flat {α : Type} {enc : α → List Value} {sz : Nat} {w : World} {a : Addr} {xs : List α} (h : SlR enc sz w (some a) xs) (hul : ∀ x ∈ xs, (enc x).length = sz) (hsz : 0 < sz) : ∀ j v, (xs.flatMap enc)[j]? = some v → w.cell? (a.add j) = some v := by
  intro j v hj
  have hlen : (xs.flatMap enc).length = xs.length * sz := by
    clear h hj
    induction xs with
    | nil => simp
    | cons y ys ih => rw [List.flatMap_cons, List.length_append, ih (fun z hz => hul z (by simp [hz])), hul y (by simp), List.length_cons, Nat.add_mul]; omega
  have hlt : j < xs.length * sz := by rw [← hlen]; exact (List.getElem?_eq_some_iff.1 hj).1
  have hi : j / sz < xs.length := (Nat.div_lt_iff_lt_mul hsz).2 hlt
  have hx : xs[j / sz]? = some xs[j / sz] := List.getElem?_eq_getElem hi
  obtain ⟨a', ha, hc⟩ := h.cells _ _ hx
  cases ha
  have hr : j % sz < (enc xs[j / sz]).length := by rw [hul _ (List.getElem_mem hi)]; exact Nat.mod_lt _ hsz
  have hu : (enc xs[j / sz])[j % sz]? = some (enc xs[j / sz])[j % sz] := List.getElem?_eq_getElem hr
  have h2 := flat_get hul hx hu
  rw [Nat.div_add_mod' j sz, hj] at h2
  have h3 := hc _ _ hu
  rw [add_add, Nat.div_add_mod' j sz] at h3
  rw [h3]; exact h2.symm

/-! ### What stands apart behind an append -/
theorem app_ne {A A' : Option Addr} {w : World} {b : Nat} (hrel : ∀ a', A' = some a' → (∃ a0, A = some a0 ∧ a'.block = a0.block) ∨ w.heap.size ≤ a'.block) (hne : ∀ a, A = some a → a.block ≠ b) (hb : b < w.heap.size) : ∀ a, A' = some a → a.block ≠ b := by
  intro a ha
  rcases hrel a ha with ⟨a0, h0, h1⟩ | h
  · rw [h1]; exact hne a0 h0
  · omega
theorem app_ne2 {A A' A2 : Option Addr} {w : World} (hrel : ∀ a', A' = some a' → (∃ a0, A = some a0 ∧ a'.block = a0.block) ∨ w.heap.size ≤ a'.block) (hne : ∀ a a', A = some a → A2 = some a' → a.block ≠ a'.block) (hb : ∀ a', A2 = some a' → a'.block < w.heap.size) : ∀ a a', A' = some a → A2 = some a' → a.block ≠ a'.block := by
  intro a a' ha ha'
  rcases hrel a ha with ⟨a0, h0, h1⟩ | h
  · rw [h1]; exact hne a0 a' h0 ha'
  · have := hb a' ha'; omega
theorem not_in {A : Option Addr} {b : Nat} (h : ∀ a, A = some a → a.block ≠ b) : b ∉ (A.map Addr.block).toList := by
  cases A with
  | none => simp
  | some a => simpa using Ne.symm (h a rfl)
theorem not_in2 {A A2 : Option Addr} (h : ∀ a a', A = some a → A2 = some a' → a.block ≠ a'.block) : ∀ a, A2 = some a → a.block ∉ (A.map Addr.block).toList := fun a ha => not_in fun a0 h0 => h a0 a h0 ha
theorem Fr.stepO {α : Type} {enc : α → List Value} {e : TypeId} {sz : Nat} {w0 w w' : World} {A : Option Addr} {c : Nat} {xs : List α} (h : Fr [] w0 w) (k : Fr (A.map Addr.block).toList w w') (hO : SlO enc e sz w0.heap.size w A c xs) : Fr [] w0 w' := by
  refine h.step k fun b hb => ?_
  cases A with
  | none => simp at hb
  | some a => simp only [Option.map_some, Option.toList_some, List.mem_singleton] at hb; subst hb; exact .inr (hO.blk a rfl).1
theorem none_ne (b : Nat) : ∀ a, (none : Option Addr) = some a → a.block ≠ b := by intro a h; cases h
theorem none_ne2 (A : Option Addr) : ∀ a a', (none : Option Addr) = some a → A = some a' → a.block ≠ a'.block := by intro a a' h; cases h

/-! ### string(bytes) -/
def ofBytes (xs : List Int) : ByteArray := ⟨(xs.map fun n => UInt8.ofNat n.toNat).toArray⟩
theorem x_bytesStr {P : Program} {l : List Value} {w : World} {o : Oper} {src dst e : TypeId} {x : Operand} {A : Option Addr} {c : Nat} {xs : List Int} (hx : evL l x = .slice A xs.length c) (h : SlR (encI .u8) 1 w A xs)
    (hs : P.underlying src = some (.slice e)) (he : P.underlying e = some (.int .u8)) (hd : P.underlying dst = some .string) (ho : o.op = .convert src dst x) : (execOp (evL l) o).run P w = .ok (.value (.string (ofBytes xs))) w := by
  have key : (convert src dst (.slice A xs.length c)).run P w = .ok (.string (ofBytes xs)) w := by
    cases A with
    | none =>
      have hn : xs = [] := by
        cases xs with
        | nil => rfl
        | cons x xs => obtain ⟨a, ha, _⟩ := h.cells 0 x rfl; cases ha
      subst hn
      exact run_convert_bytes_nil w src e hs he _ _ dst hd
    | some a =>
      have hc : ∀ j v, (xs.map (Value.int .u8))[j]? = some v → w.cell? (a.add (0 + j)) = some v := by
        intro j v hj
        have hf := h.flat (fun _ _ => rfl) (by omega) j v (by
          have : xs.flatMap (encI .u8) = xs.map (Value.int .u8) := by
            clear hj h hx; induction xs with
            | nil => rfl
            | cons x xs ih => simp [encI, ih]
          rw [this]; exact hj)
        rw [Nat.zero_add]; exact hf
      have hl : (loadCells a xs.length).run P w = .ok (xs.map (Value.int .u8)).toArray w := by
        have := run_loadFrom (P := P) (xs.map (Value.int .u8)) 0 #[] hc
        simpa [loadCells] using this
      rw [run_convert_bytes_string w src dst e _ xs.length c hs he hd, run_bytesToString w _ xs.length c xs hl, foldl_push_bytes]
      simp [ofBytes, ByteArray.empty, ByteArray.emptyWithCapacity]
      rfl
  unfold execOp
  simp only [ho, hx, Sem.run_bind, key, Result.andThen_ok, Sem.run_pure]
def infoOf (P : Program) (t : TypeId) : TypeInfo := match P.info? t with | some i => i | none => default
def zeroOf (P : Program) (t : TypeId) : Value := match P.info? t with | some i => (match i.zero with | some z => z | none => undef) | none => undef
end Go.Proofs.Yteppciglfdiljaa.K
