/- The engine's rows: slices that stay as they are (SlZ), rows of the call's own (xrow): reading, storing, append, cuts, literals, make, copy. -/
import Derived.Test.YtcjaknnihjcajaaGreatN2
set_option linter.unusedVariables false
set_option linter.unusedSimpArgs false
namespace Go.Proofs.YtcjaknnihjcajaaGreat.K
open Go Go.RowKit
def gt {α : Type} [Inhabited α] (xs : List α) (i : Int) : α := xs.getD i.toNat default
def setl {α : Type} (xs : List α) (i : Int) (y : α) : List α := xs.set i.toNat y
theorem gt_get {α : Type} [Inhabited α] {xs : List α} {i : Int} (h0 : 0 ≤ i) (h1 : i < xs.length) : xs[i.toNat]? = some (gt xs i) := by
 unfold gt; rw [List.getD_eq_getElem?_getD, List.getElem?_eq_getElem (by omega)]; rfl
theorem flat_len {α : Type} {enc : α → List Value} {sz : Nat} (h : ∀ x, (enc x).length = sz) : ∀ xs : List α, (xs.flatMap enc).length = xs.length * sz
 | [] => by simp
 | x :: xs => by rw [List.flatMap_cons, List.length_append, flat_len h xs, h x, List.length_cons, Nat.add_mul]; omega
theorem flat_one {α : Type} {enc : α → List Value} (h : ∀ x, (enc x).all Value.oneCell' = true) (xs : List α) : (xs.flatMap enc).all Value.oneCell' = true := by
 rw [List.all_eq_true]
 intro u hu; obtain ⟨y, hy, hu⟩ := List.mem_flatMap.1 hu; exact List.all_eq_true.1 (h y) u hu
theorem flat_mid {α : Type} {enc : α → List Value} {sz : Nat} (hl : ∀ x, (enc x).length = sz) {xs : List α} {i : Nat} {x : α} (hx : xs[i]? = some x) :
  xs.flatMap enc = (xs.take i).flatMap enc ++ (enc x ++ (xs.drop (i + 1)).flatMap enc) ∧ ((xs.take i).flatMap enc).length = i * sz := by
 have hi : i < xs.length := (List.getElem?_eq_some_iff.1 hx).1
 constructor
 ·rw [← List.flatMap_cons, ← List.flatMap_append]
  rw [List.getElem?_eq_getElem hi, Option.some.injEq] at hx
  rw [← hx, ← List.drop_eq_getElem_cons hi, List.take_append_drop]
 ·rw [flat_len hl, List.length_take, Nat.min_eq_left (by omega)]
/-! ### Slices that stay as they are -/
def flat {α : Type} (enc : α → List Value) : Zm → α → List Value → Prop := fun _ x cs => cs = enc x
structure SlZ {α : Type} (rep : Zm → α → List Value → Prop) (sz : Nat) (Z : Zm) (A : Option Addr) (c : Nat) (xs : List α) : Prop where
 small : xs.length ≤ 9223372036854775807
 cap : xs.length ≤ c
 cells : ∀ i x, xs[i]? = some x → ∃ b o cs, A = some ⟨b, o, none⟩ ∧ rep Z x cs ∧ cs.length = sz ∧ ZC Z b (o + i * sz) cs
def Mono {α : Type} (rep : Zm → α → List Value → Prop) : Prop := ∀ Z Z' x cs, Zm.Le Z Z' → rep Z x cs → rep Z' x cs
theorem mono_flat {α : Type} (enc : α → List Value) : Mono (flat enc) := fun _ _ _ _ _ h => h
section
variable {α : Type} {rep : Zm → α → List Value → Prop} {enc : α → List Value} {sz : Nat} {w0 w : World} {Z Z' : Zm} {A : Option Addr} {c : Nat} {xs : List α} {os : List XObj}
theorem SlZ.nil (rep : Zm → α → List Value → Prop) (sz : Nat) (Z : Zm) (A : Option Addr) (c : Nat) : SlZ rep sz Z A c [] := ⟨by simp, by simp, by simp⟩
theorem SlZ.mono (hm : Mono rep) (h : SlZ rep sz Z A c xs) (hz : Zm.Le Z Z') : SlZ rep sz Z' A c xs :=
 ⟨h.small, h.cap, fun i x hx => let ⟨b, o, cs, h1, h2, h3, h4⟩ := h.cells i x hx; ⟨b, o, cs, h1, hm _ _ _ _ hz h2, h3, h4.mono hz⟩⟩
theorem SlZ.up (h : SlZ (flat enc) sz Z A c xs) (hz : Zm.Le Z Z') : SlZ (flat enc) sz Z' A c xs := h.mono (mono_flat enc) hz
theorem SlZ.at_ [Inhabited α] (h : SlZ rep sz Z A c xs) {i : Int} (h0 : 0 ≤ i) (h1 : i < xs.length) : ∃ b o cs, A = some ⟨b, o, none⟩ ∧ rep Z (gt xs i) cs ∧ cs.length = sz ∧ ZC Z b (o + i.toNat * sz) cs :=
 h.cells i.toNat _ (gt_get h0 h1)
theorem SlZ.atF [Inhabited α] (h : SlZ (flat enc) sz Z A c xs) {i : Int} (h0 : 0 ≤ i) (h1 : i < xs.length) : ∃ b o, A = some ⟨b, o, none⟩ ∧ ZC Z b (o + i.toNat * sz) (enc (gt xs i)) := by
 obtain ⟨b, o, cs, hA, rfl, -, hc⟩ := h.at_ h0 h1
 exact ⟨b, o, hA, hc⟩
end
/-! ### Rows of the call's own -/
def RowIn (A : Option Addr) (c : Nat) (e : TypeId) (sz : Nat) (cs : List Value) (w : World) : Prop :=
 c = 0 ∧ cs = [] ∨ ∃ b pre tail, A = some ⟨b, pre.length, none⟩ ∧ Blk w b e (pre ++ (cs ++ tail)) ∧ (cs.length ≤ c * sz ∧ c * sz ≤ cs.length + tail.length) ∧ 0 < c ∧ c ≤ 9223372036854775807
def xrow (A : Option Addr) (c : Nat) (e : TypeId) (sz : Nat) (cs : List Value) : XObj where
 own := fun b => 0 < c ∧ ∃ a, A = some a ∧ a.block = b
 keeps := fun _ _ => False
 holds := RowIn A c e sz cs
 stable := by
  rintro w w' hb (h | ⟨b, pre, tail, hA, hB, hr⟩)
  ·exact .inl h
  ·exact .inr ⟨b, pre, tail, hA, (hb b ⟨hr.2.1, _, hA, rfl⟩).trans hB, hr⟩
 there := by
  rintro w b (h | ⟨b', pre, tail, hA, hB, hr⟩) ⟨h1, a, ha, h2⟩
  ·omega
  ·rw [hA] at ha; cases ha; subst h2; exact Blk.lt hB
section
variable {α : Type} {enc : α → List Value} {e : TypeId} {sz : Nat} {w0 w w' : World} {Z : Zm} {A : Option Addr} {c : Nat} {cs : List Value} {xs : List α} {os : List XObj}
theorem St.nilrow (h : St w0 Z os w) (A : Option Addr) (e : TypeId) (sz : Nat) : St w0 Z (xrow A 0 e sz [] :: os) w :=
 h.add (FrP.refl _ _) (.inl ⟨rfl, rfl⟩) (fun b hb => absurd hb.1 (by omega))
theorem St.rowOfBlk {b : Nat} (h : St w0 Z (xblk b e cs :: os) w) (hl : cs.length = c * sz) (hc : 0 < c) (hm : c ≤ 9223372036854775807) : St w0 Z (xrow (some ⟨b, 0, none⟩) c e sz cs :: os) w :=
 h.turn (X' := xrow (some ⟨b, 0, none⟩) c e sz cs) (FrP.refl _ _) (.inr ⟨b, [], [], rfl, by simpa using (show Blk w b e cs from h.hd), by simp; omega, hc, hm⟩) (fun k hk => by obtain ⟨_, a, ha, hb⟩ := hk; cases ha; exact .inl hb.symm) (fun _ _ _ _ h => h.elim) (fun _ _ _ _ h => h.elim)
theorem RowIn.len (h : RowIn A c e sz cs w) : cs.length ≤ c * sz ∧ c ≤ 9223372036854775807 := by
 rcases h with ⟨rfl, rfl⟩ | ⟨b, pre, tail, -, -, h, -, h2⟩
 ·simp
 ·omega
theorem RowIn.cap (h : RowIn A c e sz (xs.flatMap enc) w) (hl : ∀ x, (enc x).length = sz) (hsz : 0 < sz) : xs.length ≤ c := by
 have h1 := h.len.1
 rw [flat_len hl] at h1
 exact Nat.le_of_mul_le_mul_right h1 hsz
theorem RowIn.cells (h : RowIn A c e sz cs w) {v : Value} (hv : v ∈ cs) : ∃ b o, A = some ⟨b, o, none⟩ ∧ Cells w ⟨b, o, none⟩ cs := by
 rcases h with ⟨rfl, rfl⟩ | ⟨b, pre, tail, hA, hB, h⟩
 ·simp at hv
 ·refine ⟨b, pre.length, hA, ?_⟩
  have := (Blk.cells hB).mid (cs := cs) (post := tail) (off := pre.length) rfl rfl
  simpa using this
theorem RowIn.at_ [Inhabited α] (h : RowIn A c e sz (xs.flatMap enc) w) (hl : ∀ x, (enc x).length = sz) (hsz : 0 < sz) {i : Int} (h0 : 0 ≤ i) (h1 : i < xs.length) :
  ∃ b o, A = some ⟨b, o, none⟩ ∧ Cells w ⟨b, o + i.toNat * sz, none⟩ (enc (gt xs i)) := by
 have hx := gt_get (xs := xs) h0 h1
 obtain ⟨hm, hp⟩ := flat_mid hl hx
 have hne : ∃ v, v ∈ xs.flatMap enc := by
  have : 0 < (xs.flatMap enc).length := by rw [flat_len hl]; exact Nat.mul_pos (by omega) hsz
  exact ⟨_, List.getElem_mem this⟩
 obtain ⟨v, hv⟩ := hne
 obtain ⟨b, o, hA, hc⟩ := h.cells hv
 exact ⟨b, o, hA, hc.mid' hp hm⟩
theorem St.row (k : Nat) (h : St w0 Z os w) (hk : nth os k = some (xrow A c e sz cs)) : RowIn A c e sz cs w := h.at k hk
theorem RowIn.small (h : RowIn A c e sz (xs.flatMap enc) w) (hl : ∀ x, (enc x).length = sz) (hsz : 0 < sz) : xs.length ≤ 9223372036854775807 := Nat.le_trans (h.cap hl hsz) h.len.2
theorem slz_row (h : St w0 Z (xrow A c e sz (xs.flatMap enc) :: os) w) (hl : ∀ x, (enc x).length = sz) (hsz : 0 < sz) : SlZ (flat enc) sz (Z.with (xrow A c e sz (xs.flatMap enc)) w) A c xs := by
 have hr : RowIn A c e sz (xs.flatMap enc) w := h.hd
 refine ⟨hr.small hl hsz, hr.cap hl hsz, fun i x hx => ?_⟩
 have hi : i < xs.length := (List.getElem?_eq_some_iff.1 hx).1
 haveI : Inhabited α := ⟨x⟩
 obtain ⟨b, o, hA, hc⟩ := hr.at_ hl hsz (i := i) (by omega) (by omega)
 have hg : gt xs (i : Int) = x := by have := gt_get (xs := xs) (i := (i : Int)) (by omega) (by omega); rw [Int.toNat_natCast] at this; rw [this] at hx; exact Option.some.inj hx
 rw [hg, Int.toNat_natCast] at hc
 refine ⟨b, o, _, hA, rfl, hl x, fun j v hv => .inr ⟨⟨?_, _, hA, rfl⟩, ?_⟩⟩
 ·have := hr.cap hl hsz; omega
 ·have := hc j v hv; rwa [add_lit] at this
theorem RowIn.store {P : Program} {t : TypeId} {o : Nat} {v : Value} {vs : List Value} {b p : Nat} (h : RowIn A c e sz cs w) (hA : A = some ⟨b, p, none⟩) (hv : v.cells = vs.toArray) (hs : pureSem P (sizeOf t) = some vs.length) (h1 : vs.all Value.oneCell' = true) (hp : 0 < vs.length) (hl : o + vs.length ≤ cs.length) :
  ∃ w', StoresTo P w t ⟨b, p + o, none⟩ v w' ∧ RowIn A c e sz (over cs o vs) w' ∧ FrP (xrow A c e sz cs).own w w' := by
 rcases h with ⟨rfl, rfl⟩ | ⟨b', pre, tail, hA', hB, h⟩
 ·simp only [List.length_nil] at hl; omega
 ·rw [hA] at hA'; simp only [Option.some.injEq, Addr.mk.injEq, and_true] at hA'; obtain ⟨rfl, rfl⟩ := hA'
  obtain ⟨w', hst, hb, hf⟩ := stores (P := P) (t := t) (o := pre.length + o) hB hv hs h1 (by simp; omega)
  refine ⟨w', hst, .inr ⟨b, pre, tail, hA, ?_, by rw [over_len]; exact h.1, h.2⟩, hf.mono (fun k _ hk => ⟨h.2.1, _, hA, hk.symm⟩)⟩
  refine hb.eq ?_
  rw [over_eq _ _ _ (by simp; omega), over_eq _ _ _ hl]
  simp only [List.take_append, List.drop_append, List.append_assoc]
  rw [List.take_of_length_le (by omega), List.drop_of_length_le (by omega), show pre.length + o - pre.length = o by omega, show pre.length + o + vs.length - pre.length = o + vs.length by omega,
   show o - cs.length = 0 by omega, show o + vs.length - cs.length = 0 by omega]
  simp
end
/-! ### append -/
structure Src (P : Program) (w : World) (sz : Nat) (x : Value) (m : Nat) (news : List Value) : Prop where
 len : ∀ w', (Builtin.lenOf x).run P w' = .ok m w'
 part : ∀ n w', n ≤ m → w'.heap = w.heap → (Builtin.firstCells sz n x).run P w' = .ok (news.take (n * sz)).toArray w'
 nl : news.length = m * sz
theorem Src.cells {P : Program} {w : World} {sz : Nat} {x : Value} {m : Nat} {news : List Value} (h : Src P w sz x m news) (w' : World) (he : w'.heap = w.heap) : (Builtin.firstCells sz m x).run P w' = .ok news.toArray w' := by
 rw [h.part m w' (Nat.le_refl _) he, List.take_of_length_le (by rw [h.nl]; exact Nat.le_refl _)]
theorem Cells.take {w : World} {a : Addr} {cs : List Value} (h : Cells w a cs) (n : Nat) : Cells w a (cs.take n) := fun j v hv => h j v (by
 rw [List.getElem?_take] at hv
 split at hv
 ·exact hv
 ·cases hv)
theorem cells_heap {w w' : World} {a : Addr} {cs : List Value} (h : Cells w a cs) (he : w'.heap = w.heap) : Cells w' a cs := fun j v hv => by
 have := h j v hv
 unfold World.cell? at *; rw [he]; exact this
theorem src_cells {P : Program} {w : World} {sz n c : Nat} {a : Addr} {cs : List Value} (h : Cells w a cs) (hn : cs.length = n * sz) : Src P w sz (.slice (some a) n c) n cs :=
 ⟨fun w' => rfl, fun m w' hm he => by
  simp only [Builtin.firstCells]
  have hmul : m * sz ≤ n * sz := Nat.mul_le_mul_right _ hm
  exact run_loadCells ((cells_heap h he).take _) (by rw [List.length_take, hn, Nat.min_eq_left hmul]), hn⟩
theorem src_nil {P : Program} {w : World} {sz c : Nat} {A : Option Addr} : Src P w sz (.slice A 0 c) 0 [] := by
  refine ⟨fun w' => rfl, fun n w' hn he => ?_, by simp⟩
  obtain rfl : n = 0 := by omega
  simp only [Nat.zero_mul, List.take_zero]
  cases A with
  | none => rfl
  | some a =>
    simp only [Builtin.firstCells, Nat.zero_mul]
    exact run_loadCells (cs := []) (fun j v hv => by simp at hv) rfl
theorem src_row {α : Type} {P : Program} {enc : α → List Value} {w : World} {sz : Nat} {A : Option Addr} {c : Nat} {e : TypeId} {xs : List α} (h : RowIn A c e sz (xs.flatMap enc) w) (hsz : 0 < sz) (hl : ∀ x, (enc x).length = sz) : Src P w sz (.slice A xs.length c) xs.length (xs.flatMap enc) := by
  cases xs with
  | nil => exact src_nil
  | cons x xs =>
    have : 0 < ((x :: xs).flatMap enc).length := by rw [flat_len hl]; exact Nat.mul_pos (by simp) hsz
    obtain ⟨b, o, hA, hc⟩ := h.cells (List.getElem_mem this)
    subst hA
    exact src_cells hc (flat_len hl _)
theorem append_run {P : Program} {w : World} {t t2 ty e u : TypeId} {i : TypeInfo} {z : Value} {bytes sz n m c : Nat} {A : Option Addr} {cs news : List Value} {x : Value} (ht : P.underlying t = some (.slice e)) (h2 : P.underlying t2 = some (.slice u) ∨ P.underlying t2 = some .string) (hi : P.info? e = some i) (hz : i.zero = some z) (hsize : i.size = sz) (hby : i.bytes = bytes) (hzs : z.cells.size = sz) (hsz : 0 < sz)
    (hX : RowIn A c e sz cs w) (hn : cs.length = n * sz) (hs : Src P w sz x m news) (h1 : news.all Value.oneCell' = true) (hbytes : (n + m) * bytes ≤ 140737488355328) (hb1 : 0 < bytes) :
    ∃ A' c' w', (Builtin.append_ #[t, t2] ty #[.slice A n c, x]).run P w = .ok (.slice A' (n + m) c') w' ∧ RowIn A' c' e sz (cs ++ news) w' ∧ FrP (xrow A c e sz cs).own w w' ∧ (∀ b, (xrow A' c' e sz (cs ++ news)).own b → (xrow A c e sz cs).own b ∨ w.heap.size ≤ b) ∧ (A' = A ∧ c' = c ∨ 0 < c' ∧ ∃ g, A' = some ⟨g, 0, none⟩) := by
  have hmul : n + m ≤ (n + m) * bytes := Nat.le_mul_of_pos_right _ hb1
  have hsmall : n + m ≤ 140737488355328 := Nat.le_trans hmul hbytes
  have hcap := hX.len
  have hnl := hs.nl
  by_cases hroom : n + m ≤ c
  · -- in place
    have hrun : ∀ w', (match A with | some a => storeCells (a.add (n * sz)) news | none => pure ()).run P w = .ok () w' → (Builtin.append_ #[t, t2] ty #[.slice A n c, x]).run P w = .ok (.slice A (n + m) c) w' := by
      intro w' hw'
      have hf := hs.cells w rfl
      have hl := hs.len w
      cases A with
      | none =>
        simp only [Sem.run_pure, Result.ok.injEq, true_and] at hw'
        subst hw'
        rcases h2 with h2 | h2 <;> simp [Builtin.append_, run_underlying ht, run_underlying h2, sizeOf, typeInfo, hi, hsize, hl, hroom, hf]
      | some a =>
        rcases h2 with h2 | h2 <;> simp [Builtin.append_, run_underlying ht, run_underlying h2, sizeOf, typeInfo, hi, hsize, hl, hroom, hf, hw']
    rcases hX with ⟨rfl, rfl⟩ | ⟨b, pre, tail, rfl, hB, hr⟩
    · have hn0 : n = 0 := by omega
      have hm0 : m = 0 := by omega
      subst hn0; subst hm0
      have hnn : news = [] := List.eq_nil_of_length_eq_zero (by simpa using hnl)
      subst hnn
      refine ⟨A, 0, w, hrun w (by cases A <;> simp [storeCells]), .inl ⟨rfl, rfl⟩, FrP.refl _ _, fun b hb => .inl hb, .inl ⟨rfl, rfl⟩⟩
    · have hfit : (n + m) * sz ≤ c * sz := Nat.mul_le_mul_right _ hroom
      have hfit2 : n * sz + news.length ≤ c * sz := by rw [hnl, ← Nat.add_mul]; exact hfit
      have hfit3 := hr.1
      obtain ⟨w', hst, hb, hf⟩ := run_storeCells (P := P) (o := pre.length + n * sz) news 0 hB (by simp; omega) (by simpa using h1)
      have hpre : (⟨b, pre.length, none⟩ : Addr).add (n * sz) = ⟨b, pre.length + n * sz, none⟩ := add_lit _ _ _
      refine ⟨_, c, w', hrun w' (by simp only [hpre]; exact hst), .inr ⟨b, pre, tail.drop news.length, rfl, hb.eq ?_, ?_, hr.2⟩, hf.mono (fun k _ hk => ⟨hr.2.1, _, rfl, hk.symm⟩), fun k hk => ?_, .inl ⟨rfl, rfl⟩⟩
      · rw [Nat.add_zero, over_mid' (pre := pre ++ cs) (old := tail.take news.length) (post := tail.drop news.length) (by simp) (by simp [hn]) (by simp; omega)]
        simp
      · simp only [List.length_append, List.length_drop]; omega
      · exact .inl hk
  · -- a new row
    have hold : (Builtin.firstCells sz n (.slice A n c)).run P w.drew = .ok cs.toArray w.drew := by
      rcases hX with ⟨rfl, rfl⟩ | ⟨b, pre, tail, rfl, hB, hr⟩
      · have hn0 : n = 0 := by
          have h0 : n * sz = 0 := by simpa using hn.symm
          rcases Nat.mul_eq_zero.1 h0 with h | h
          · exact h
          · omega
        subst hn0
        exact (src_nil (P := P) (w := w.drew) (sz := sz) (c := 0) (A := A)).cells _ rfl
      · have hc : Cells w ⟨b, pre.length, none⟩ cs := by
          have := (Blk.cells hB).mid (cs := cs) (post := tail) (off := pre.length) rfl rfl
          simpa using this
        exact (src_cells (P := P) (w := w.drew) (sz := sz) (n := n) (c := c) (cells_heap hc rfl) hn).cells _ rfl
    have hnew := hs.cells w.drew rfl
    have hl := hs.len w
    have h63 : ¬ (9223372036854775807 < ((n : Int) + (m : Int))) := by omega
    have h48 : ¬ (281474976710656 < Builtin.nextslicecap (n + m) c * i.bytes) := by have := growslice_fits (need := n + m) (old := c) (bytes := i.bytes) (by omega) (by rw [hby]; exact hbytes); omega
    have hge := grownCap_ge w (n + m) c e
    have hle : grownCap w (n + m) c e ≤ maxLen := grownCap_le_maxLen w _ c e (by simp only [maxLen]; omega)
    refine ⟨some ⟨w.heap.size, 0, none⟩, grownCap w (n + m) c e, w.drew.alloc (.cells (cs.toArray ++ news.toArray ++ Builtin.zeroCells z.cells (grownCap w (n + m) c e - (n + m))) e), ?_, .inr ⟨w.heap.size, [], (Builtin.zeroCells z.cells (grownCap w (n + m) c e - (n + m))).toList, rfl, ?_, ?_, by omega, by simpa only [maxLen] using hle⟩, ?_, ?_, .inr ⟨by omega, _, rfl⟩⟩
    · rcases h2 with h2 | h2
      · simp [Builtin.append_, run_underlying ht, run_underlying h2, sizeOf, typeInfo, zeroValue, hi, hz, hsize, hl, hroom, h63, h48, Question.forced, hold, hnew, newRow, grownCap]
        congr 2
        apply Array.ext'
        simp [List.append_assoc]
      · simp [Builtin.append_, run_underlying ht, run_underlying h2, sizeOf, typeInfo, zeroValue, hi, hz, hsize, hl, hroom, h63, h48, Question.forced, hold, hnew, newRow, grownCap]
        congr 2
        apply Array.ext'
        simp [List.append_assoc]
    · have := heap_alloc_new w.drew (.cells (cs.toArray ++ news.toArray ++ Builtin.zeroCells z.cells (grownCap w (n + m) c e - (n + m))) e)
      unfold Blk
      refine this.trans ?_
      congr 2
      apply Array.ext'
      simp [List.append_assoc]
    · have he : (cs ++ news).length + (Builtin.zeroCells z.cells (grownCap w (n + m) c e - (n + m))).toList.length = grownCap w (n + m) c e * sz := by
        simp only [List.length_append, Array.length_toList, size_zeroCells, hzs, hn, hnl]
        rw [← Nat.add_mul, ← Nat.add_mul]
        congr 1; omega
      omega
    · exact ⟨rfl, rfl, rfl, by simp, fun k hk _ => Below.heap_alloc w.drew _ k hk, Nat.le_succ _⟩
    · rintro k ⟨_, a, ha, hk⟩
      cases ha
      exact .inr (by rw [← hk]; exact Nat.le_refl _)
section
variable {P : Program} {f : Fx} {k : List Item} {l : List Value} {w w0 : World} {Z : Zm} {os : List XObj} {R : Ending → World → Prop} {c : Code} {i : Nat} {rest : List Nat} {d : Option Tmp} {ty : TypeId}
theorem x_append {o : Oper} {s x : Operand} {t t2 : TypeId} {v v' u : Value} {w' : World} (hs : evL l s = v) (hx : evL l x = u) (hr : (Builtin.append_ #[t, t2] o.type #[v, u]).run P w = .ok v' w')
  (ho : o.op = .call { callee := .builtin .append, args := #[s, x], argTypes := #[t, t2] }) : (execOp (evL l) o).run P w = .ok (.value v') w' := by
 unfold execOp
 simp only [ho, resolve, invoke, builtin, Sem.run_bind, Sem.run_pure, Result.andThen_ok, List.map_toArray, List.map_cons, List.map_nil, hs, hx, hr]
theorem r_append {α : Type} {enc : α → List Value} {e u t t2 : TypeId} {sz cp : Nat} {A : Option Addr} {xs ys : List α} {s x : Operand} {xv : Value} {info : TypeInfo} {z : Value} {bytes : Nat} {ycs : List Value}
  (hS : St w0 Z (xrow A cp e sz (xs.flatMap enc) :: os) w) (ho : opI c i = some (d, .call { callee := .builtin .append, args := #[s, x], argTypes := #[t, t2] }, ty)) (hw : wantI c l i = true) (hs : evL l s = .slice A xs.length cp) (hx : evL l x = xv)
  (ht : P.underlying t = some (.slice e)) (h2 : P.underlying t2 = some (.slice u) ∨ P.underlying t2 = some .string) (hi : P.info? e = some info) (hz : info.zero = some z) (hsize : info.size = sz) (hby : info.bytes = bytes) (hzs : z.cells.size = sz) (hsz : 0 < sz)
  (hl : ∀ x, (enc x).length = sz) (h1 : ∀ x, (enc x).all Value.oneCell' = true) (hc : Src P w sz xv ys.length ycs) (hy : ycs = ys.flatMap enc) (hbytes : (xs.length + ys.length) * bytes ≤ 140737488355328) (hb1 : 0 < bytes)
  (h : ∀ A' c' w', St w0 Z (xrow A' c' e sz ((xs ++ ys).flatMap enc) :: os) w' → Runs P f (.inRegion (opsOf c) rest :: k) (putL l d (.slice A' (xs ++ ys).length c')) w' R) : Runs P f (.inRegion (opsOf c) (i :: rest) :: k) l w R := by
 subst hy
 obtain ⟨A', c', w', hr, hO', hf, hrel, -⟩ := append_run (P := P) (ty := ty) ht h2 hi hz hsize hby hzs hsz hS.hd (flat_len hl xs) hc (flat_one h1 ys) hbytes hb1
 rw [← List.flatMap_append] at hO' hrel
 rw [← List.length_append] at hr
 exact r_val ho hw (fun o hop hty => by subst hty; exact x_append hs hx hr hop) (h A' c' w' (hS.turn (X' := xrow A' c' e sz ((xs ++ ys).flatMap enc)) hf hO' hrel (fun _ _ _ _ h => h.elim) (fun _ _ _ _ h => h.elim)))
theorem r_appendC {e u t t2 : TypeId} {sz cp n m : Nat} {A : Option Addr} {xcs ycs : List Value} {s x : Operand} {xv : Value} {info : TypeInfo} {z : Value} {bytes : Nat}
  (hS : St w0 Z (xrow A cp e sz xcs :: os) w) (ho : opI c i = some (d, .call { callee := .builtin .append, args := #[s, x], argTypes := #[t, t2] }, ty)) (hw : wantI c l i = true) (hs : evL l s = .slice A n cp) (hx : evL l x = xv)
  (ht : P.underlying t = some (.slice e)) (h2 : P.underlying t2 = some (.slice u) ∨ P.underlying t2 = some .string) (hi : P.info? e = some info) (hz : info.zero = some z) (hsize : info.size = sz) (hby : info.bytes = bytes) (hzs : z.cells.size = sz) (hsz : 0 < sz)
  (hn : xcs.length = n * sz) (hc : Src P w sz xv m ycs) (h1 : ycs.all Value.oneCell' = true) (hbytes : (n + m) * bytes ≤ 140737488355328) (hb1 : 0 < bytes)
  (h : ∀ A' c' w', St w0 Z (xrow A' c' e sz (xcs ++ ycs) :: os) w' → Runs P f (.inRegion (opsOf c) rest :: k) (putL l d (.slice A' (n + m) c')) w' R) : Runs P f (.inRegion (opsOf c) (i :: rest) :: k) l w R := by
 obtain ⟨A', c', w', hr, hO', hf, hrel, -⟩ := append_run (P := P) (ty := ty) ht h2 hi hz hsize hby hzs hsz hS.hd hn hc h1 hbytes hb1
 exact r_val ho hw (fun o hop hty => by subst hty; exact x_append hs hx hr hop) (h A' c' w' (hS.turn (X' := xrow A' c' e sz (xcs ++ ycs)) hf hO' hrel (fun _ _ _ _ h => h.elim) (fun _ _ _ _ h => h.elim)))
theorem storeEl_run {α : Type} [Inhabited α] {enc : α → List Value} {e t : TypeId} {sz cp : Nat} {A : Option Addr} {xs : List α} {x y : Operand} {el el' : α} {j : Int} {off b p : Nat} {v : Value} {vs : List Value} {ad : Addr}
    (hS : St w0 Z (xrow A cp e sz (xs.flatMap enc) :: os) w) {o : Oper} (ho : o.op = .store t x y) (hx : evL l x = .pointer (some ad)) (hp : ad = ⟨b, p + j.toNat * sz + off, none⟩) (hy : evL l y = v) (hA : A = some ⟨b, p, none⟩) (hj : 0 ≤ j ∧ j < xs.length) (hel : gt xs j = el)
    (hl : ∀ x, (enc x).length = sz) (hv : v.cells = vs.toArray) (hs : pureSem P (sizeOf t) = some vs.length) (h1 : vs.all Value.oneCell' = true) (hp1 : 0 < vs.length) (hlen : off + vs.length ≤ sz) (he : over (enc el) off vs = enc el') :
    ∃ w', (execOp (evL l) o).run P w = .ok .skip w' ∧ St w0 Z (xrow A cp e sz ((setl xs j el').flatMap enc) :: os) w' := by
  subst hp; subst hel
  have hx' := gt_get (xs := xs) hj.1 hj.2
  obtain ⟨hm, hpl⟩ := flat_mid hl hx'
  have hjl : j.toNat < xs.length := by omega
  have hle : j.toNat * sz + sz ≤ xs.length * sz := by rw [← Nat.succ_mul]; exact Nat.mul_le_mul_right _ hjl
  obtain ⟨w', hst, hr, hf⟩ := RowIn.store (P := P) (t := t) (o := j.toNat * sz + off) (show RowIn A cp e sz (xs.flatMap enc) w from hS.hd) hA hv hs h1 hp1 (by rw [flat_len hl]; omega)
  have hov : over (xs.flatMap enc) (j.toNat * sz + off) vs = (setl xs j el').flatMap enc := by
    have hset : setl xs j el' = xs.take j.toNat ++ el' :: xs.drop (j.toNat + 1) := by unfold setl; rw [List.set_eq_take_append_cons_drop, if_pos hjl]
    rw [hset, List.flatMap_append, List.flatMap_cons, ← he, hm]
    have hg : (enc (gt xs j)).length = sz := hl _
    generalize (xs.take j.toNat).flatMap enc = F at hpl ⊢
    generalize (xs.drop (j.toNat + 1)).flatMap enc = G
    generalize enc (gt xs j) = E at hg ⊢
    rw [over_eq vs E off (by omega)]
    have h3 := over_mid' (all := F ++ (E ++ G)) (pre := F ++ E.take off) (old := (E.drop off).take vs.length) (vs := vs) (post := E.drop (off + vs.length) ++ G) (o := j.toNat * sz + off)
      (by have h4 : E = E.take off ++ ((E.drop off).take vs.length ++ E.drop (off + vs.length)) := by rw [← List.drop_drop, List.take_append_drop, List.take_append_drop]
          conv => lhs; rw [h4]
          simp [List.append_assoc]) (by simp only [List.length_append, List.length_take, hpl]; omega) (by simp only [List.length_take, List.length_drop]; omega)
    rw [h3]
    simp [List.append_assoc]
  rw [hov] at hr
  exact ⟨w', x_store hx hy (by rw [Nat.add_assoc]; exact hst) ho, hS.turn (X' := xrow A cp e sz ((setl xs j el').flatMap enc)) hf hr (fun b hb => .inl hb) (fun _ _ _ _ h => h.elim) (fun _ _ _ _ h => h.elim)⟩
theorem r_storeEl {α : Type} [Inhabited α] {enc : α → List Value} {e t : TypeId} {sz cp : Nat} {A : Option Addr} {xs : List α} {x y : Operand} {el el' : α} {j : Int} {off b p : Nat} {v : Value} {vs : List Value} {ad : Addr}
  (hS : St w0 Z (xrow A cp e sz (xs.flatMap enc) :: os) w) (ho : opI c i = some (d, .store t x y, ty)) (hw : wantI c l i = true) (hx : evL l x = .pointer (some ad)) (hp : ad = ⟨b, p + j.toNat * sz + off, none⟩) (hy : evL l y = v) (hA : A = some ⟨b, p, none⟩) (hj : 0 ≤ j ∧ j < xs.length) (hel : gt xs j = el)
  (hl : ∀ x, (enc x).length = sz) (hv : v.cells = vs.toArray) (hs : pureSem P (sizeOf t) = some vs.length) (h1 : vs.all Value.oneCell' = true) (hp1 : 0 < vs.length) (hlen : off + vs.length ≤ sz) (he : over (enc el) off vs = enc el')
  (h : ∀ w', St w0 Z (xrow A cp e sz ((setl xs j el').flatMap enc) :: os) w' → Runs P f (.inRegion (opsOf c) rest :: k) (putL l d undef) w' R) : Runs P f (.inRegion (opsOf c) (i :: rest) :: k) l w R := by
 obtain ⟨o, hq, rfl, h2, h3⟩ := opI_spec ho
 obtain ⟨w', hr, hs'⟩ := storeEl_run hS h2 hx hp hy hA hj hel hl hv hs h1 hp1 hlen he
 exact runs_op_done hq (wantI_spec hq hw) hr (h w' hs')
end
end Go.Proofs.YtcjaknnihjcajaaGreat.K
