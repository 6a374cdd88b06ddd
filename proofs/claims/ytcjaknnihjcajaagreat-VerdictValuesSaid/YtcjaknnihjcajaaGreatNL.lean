/- The law's end: what came in, opened; what a call that turns nothing old and answers true owes the statement. -/
import Derived.Test.YtcjaknnihjcajaaGreatN9
import Derived.ProofKit
import Derived.OpenShut
import Derived.Carry
import Derived.JoinedCond
import Derived.SizedLaws
set_option linter.unusedVariables false
set_option linter.unusedSimpArgs false
namespace Go.Proofs.YtcjaknnihjcajaaGreat.K
open Go Go.RowKit Go.ChangeShapes Go.WideShapes Go.ChangeAt
section
variable {H : Type} {enc : TypeId × Value → H} {P : Program}
theorem trodAll_stays (hl : laidOutB P = true) {W W' : World} (hf : FrB0 W W') {sp : Nat → Bool} : ∀ {ts : List TypeId} {vs : List Value} {ds : List (DataW H)} {ps : List MemPlace},
    (∀ t ∈ ts, P.readableRec t = true ∧ t < P.types.size) → (∀ x ∈ ps, x.block < W.heap.size ∧ sp x.block = true) → DataW.TrodAll enc P W 0 (fun _ => true) true ts vs ds ps → DataW.TrodAll enc P W' 0 sp true ts vs ds ps
  | [], [], [], _, _, _, h => h
  | t :: ts, v :: vs, d :: ds, ps, hr, hs, h => by
    obtain ⟨p, q, h1, h2, rfl⟩ := h
    have hb := hf.ext
    exact ⟨p, q, WideElems.Trod_stays hl (hr t (by simp)).1 (hr t (by simp)).2 h1 (fun x hx => hb.same (hs x (by simp [hx])).1) (fun x hx => (hs x (by simp [hx])).2),
      trodAll_stays hl hf (fun t ht => hr t (by simp [ht])) (fun x hx => hs x (by simp [hx])) h2, rfl⟩
  | [], [], _ :: _, _, _, _, h | [], _ :: _, _, _, _, _, h | _ :: _, [], _, _, _, _, h | _ :: _, _ :: _, [], _, _, _, h => by simp [DataW.TrodAll] at h
def rowedB (P : Program) (ts : List TypeId) : Bool := ts.all fun t => P.readableRec t && decide (t < P.types.size)
theorem fr_frozen {W W' : World} (hf : FrB0 W W') {a : Addr} (h : a.block < W.heap.size) : W'.frozen? a = W.frozen? a := by
 unfold World.frozen?
 rw [hf.block a.block h (fun f => f)]
theorem fr_kept {W W' : World} (hf : FrB0 W W') (may : MemPlace → Prop) : W.keptBut W' may := by
 refine ⟨hf.os, hf.output, fun i hi => ?_⟩
 rw [hf.block i hi (fun f => f)]
 have ho : W.heap[i]? = some W.heap[i] := Array.getElem?_eq_getElem hi
 rw [ho]
 cases W.heap[i] <;> simp
theorem law_post {f : Func} {s : ChangeSpec} {apart fresh handsOn again : Bool} {W W' : World} {args : Array Value} {ds gs : List (DataW H)} {before : List MemPlace} {tb : TypeId} (hl : laidOutB P = true) (hr : rowedB P f.params.toList = true)
  (hW : DataW.Whole enc P f.params.toList s.vars apart W args.toList ds gs before) (hv : s.vars = []) (hf : FrB0 W W') (hs : s.fn H ds = { results := [.lit (.bool true)], args := ds, vars := [] }) (ht : f.resultTypes = #[tb]) (hb : P.underlying tb = some .bool) :
  s.post enc P f apart fresh handsOn again W args (.bool true) W' := by
 have hlt : ∀ x ∈ before, x.block < W.heap.size := hW.lt
 have hW' := hW
 obtain ⟨p, q, hA, hV, rfl, hz, hn⟩ := hW
 rw [hv] at hV
 obtain ⟨rfl, rfl⟩ : gs = [] ∧ q = [] := by
  cases gs with
  | nil => exact ⟨rfl, hV⟩
  | cons g gs => exact hV.elim
 simp only [List.append_nil] at *
 have hrr : ∀ t ∈ f.params.toList, P.readableRec t = true ∧ t < P.types.size := by
  intro t h
  have := List.all_eq_true.1 hr t h
  simpa using this
 have key : ∀ sp : Nat → Bool, (∀ x ∈ p, sp x.block = true) → DataW.TrodAll enc P W' 0 sp true f.params.toList args.toList ds p := fun sp h => trodAll_stays hl hf hrr (fun x hx => ⟨hlt x hx, h x hx⟩) hA
 have hres : ∀ b sp hd, DataW.TrodAll enc P W' b sp hd f.resultTypes.toList ((Value.bool true).resultList f.resultTypes.size) [(.lit (.bool true) : DataW H)] [] := by
  intro b sp hd
  rw [ht]
  exact trodAll_cons_mk (shut_bool hb true) trodAll_mk0
 have hok : ∀ (j : Nat) (t : TypeId) (r : Value), f.resultTypes[j]? = some t → ((Value.bool true).resultList f.resultTypes.size)[j]? = some r → Value.okWide P W' .any 0 t r := ok_one ht rfl (okWide_bool_mk hb true)
 refine ⟨ds, [], p, [], p, [], by simpa using hW', ?_, ?_, ?_, fr_kept hf _, fun _ => ⟨hok, [.lit (.bool true)] ++ ds, [], p, ⟨p, [], ?_, by rw [hv]; exact rfl, by simp, ?_, ?_⟩, fun x hx _ => hx⟩⟩
 ·rw [List.append_nil, hs]; exact hres _ _ _
 ·rw [List.append_nil, hs]; exact key _ (fun x hx => by simpa using hlt x hx)
 ·rw [List.append_nil, hs, hv]; exact rfl
 ·have := trodAll_append (key (fun _ => true) (fun _ _ => rfl)) (hres 0 (fun _ => true) true)
  simpa using this
 ·intro b off hp
  rw [fr_frozen hf (a := ⟨b, off, none⟩) (hlt _ hp)]
  exact hz b off hp
 ·intro ha; exact hn ha
end
/-! ### What came in -/
def Zold (w : World) : Zm := ⟨fun b o v => w.cell? ⟨b, o, none⟩ = some v, fun b x => w.heap[b]? = some x, False⟩
theorem St.start (w : World) : St w (Zold w) [] w := ⟨FrB.refl _ _, (fun m => m.elim), fun _ _ _ h => h, fun _ _ h => h, by simp, by simp, List.Pairwise.nil, by simp, by simp⟩
abbrev bnd : Nat := reachBytes
def Opens {α : Type} (P : Program) (t : TypeId) (rep : Zm → α → List Value → Prop) (ok : α → Prop) : Prop :=
 ∀ {H : Type} (enc : TypeId × Value → H) (w : World) (spare : Nat → Bool) (held : Bool) (fuel : Nat) (cs : List Value) (x : DataW H × List MemPlace), DataW.trod enc P w 0 spare held fuel t cs = some x → (∀ n ∈ x.1.weights P t, n ≤ bnd) →
  ∃ y, rep (Zold w) y cs ∧ ok y ∧ cs.length = P.cellsOf t
theorem opens_int {P : Program} {t : TypeId} {k : IntKind} (hu : P.underlying t = some (.int k)) (hc : P.cellsOf t = 1) : Opens P t (flat (encI k)) (fun n => (Lit.int k n).wf = true) := by
 intro H enc w spare held fuel cs x h hw
 obtain ⟨n, rfl, -, hn⟩ := DataW.trod_int hu h
 exact ⟨n, rfl, hn, hc.symm⟩
theorem opens_str {P : Program} {t : TypeId} (hu : P.underlying t = some .string) (hc : P.cellsOf t = 1) : Opens P t (flat encS) (fun s => s.size ≤ bnd) := by
 intro H enc w spare held fuel cs x h hw
 obtain ⟨s, rfl, rfl, hs⟩ := DataW.trod_string hu h
 refine ⟨s, rfl, ?_, hc.symm⟩
 have := hw s.data.toList.length (by simp [DataW.weights])
 simpa using this
theorem weightsAll_mem {H : Type} {P : Program} {e : TypeId} : ∀ {ds : List (DataW H)} {i : Nat} {d : DataW H}, ds[i]? = some d → ∀ n ∈ d.weights P e, n ∈ DataW.weightsAll P e ds
 | d0 :: ds, 0, d, hd, n, hn => by simp only [List.getElem?_cons_zero, Option.some.injEq] at hd; subst hd; simp only [DataW.weightsAll, List.mem_append]; exact .inl hn
 | d0 :: ds, i + 1, d, hd, n, hn => by simp only [List.getElem?_cons_succ] at hd; simp only [DataW.weightsAll, List.mem_append]; exact .inr (weightsAll_mem hd n hn)
 | [], _, _, hd, _, _ => by simp at hd
theorem choose_list {α : Type} {n : Nat} {R : Nat → α → Prop} (h : ∀ i, i < n → ∃ y, R i y) : ∃ ys : List α, ys.length = n ∧ ∀ i y, ys[i]? = some y → R i y := by
  induction n with
  | zero => exact ⟨[], rfl, by simp⟩
  | succ n ih =>
    obtain ⟨ys, hl, hy⟩ := ih (fun i hi => h i (by omega))
    obtain ⟨y, hr⟩ := h n (by omega)
    refine ⟨ys ++ [y], by simp [hl], fun i z hz => ?_⟩
    by_cases hi : i < n
    · rw [List.getElem?_append_left (by omega)] at hz; exact hy i z hz
    · have : i < (ys ++ [y]).length := (List.getElem?_eq_some_iff.1 hz).1
      simp [hl] at this
      have hin : i = n := by omega
      subst hin
      rw [List.getElem?_append_right (by omega), hl] at hz
      simp at hz; subst hz; exact hr
theorem opens_arr {α : Type} [Inhabited α] {P : Program} {t e : TypeId} {enc : α → List Value} {ok : α → Prop} {n sz : Nat} (he : Opens P e (flat enc) ok) (hu : P.underlying t = some (.array n e)) (hc : P.cellsOf e = sz) (hn : P.cellsOf t = n * sz) (hl : ∀ x, (enc x).length = sz) :
    Opens P t (flat (encV enc) : Zm → Vector α n → List Value → Prop) (fun v => ∀ i : Int, 0 ≤ i → i < n → ok (vget v i)) := by
  intro H en w spare held fuel cs x h hw
  obtain ⟨xs, m, -, rfl, hlen, hxl, hf⟩ := DataW.trod_array hu h
  have each : ∀ i, i < n → ∃ y, (cs.drop (i * sz)).take sz = enc y ∧ ok y := by
    intro i hi
    have h1 := hf i hi
    rw [hc, List.getElem?_eq_getElem (by omega)] at h1
    obtain ⟨y, hr, ho, -⟩ := he en w spare held m _ _ h1 (fun k hk => hw k (by
      simp only [DataW.weights, hu]
      exact weightsAll_mem (i := i) (by rw [List.getElem?_map, List.getElem?_eq_getElem (by omega)]; rfl) k hk))
    exact ⟨y, hr, ho⟩
  obtain ⟨ys, hyl, hy⟩ := choose_list each
  have hcs : cs = ys.flatMap enc := by
    have key : ∀ (k : Nat) (zs : List α), zs.length + k = n → (∀ i y, zs[i]? = some y → ys[k + i]? = some y) → cs.drop (k * sz) = zs.flatMap enc := by
      intro k zs
      induction zs generalizing k with
      | nil => intro hk _; rw [List.drop_of_length_le (by rw [hlen, hn]; exact Nat.mul_le_mul_right _ (by simp at hk; omega))]; rfl
      | cons z zs ih =>
        intro hk hz
        have h0 := hy k z (by simpa using hz 0 z rfl)
        have h1 := ih (k + 1) (by simp at hk; omega) (fun i y hi => by have := hz (i + 1) y (by simpa using hi); rwa [show k + (i + 1) = k + 1 + i by omega] at this)
        rw [List.flatMap_cons, ← h0.1, ← h1, Nat.add_mul, Nat.one_mul, ← List.drop_drop, List.take_append_drop]
    have := key 0 ys (by omega) (fun i y hi => by simpa using hi)
    simpa using this
  refine ⟨⟨ys.toArray, by simpa using hyl⟩, ?_, ?_, hlen⟩
  · unfold flat encV
    simpa using hcs
  · intro i h0 h1
    have hi : i.toNat < ys.length := by omega
    have : vget (⟨ys.toArray, by simpa using hyl⟩ : Vector α n) i = ys[i.toNat] := by
      unfold vget
      simp [List.getElem?_eq_getElem hi]
    rw [this]
    exact (hy i.toNat _ (List.getElem?_eq_getElem hi)).2
theorem opens_sl {α : Type} {P : Program} {t e : TypeId} {rep : Zm → α → List Value → Prop} {ok : α → Prop} {sz bytes : Nat} (he : Opens P e rep ok) (hu : P.underlying t = some (.slice e)) (hc : P.cellsOf e = sz) (hsz : 0 < sz) (hct : P.cellsOf t = 1) (hb : P.bytesOf e = bytes) :
  Opens P t (repL rep sz) (fun xs => xs.length * bytes ≤ bnd ∧ ∀ x ∈ xs, ok x) := by
 intro H en w spare held fuel cs x h hw
 rcases DataW.trod_slice hu h with ⟨rfl, rfl⟩ | ⟨a, len, cap, elems, rest, m, rfl, rfl, rfl, hba, hlc, hcm, hel, hf, -, -⟩
 ·exact ⟨[], ⟨none, 0, rfl, SlZ.nil _ _ _ _ _⟩, ⟨by simp, by simp⟩, hct.symm⟩
 ·have each : ∀ i, i < len → ∃ y, (∃ cs, w.cells? 0 (a.add (i * sz)) sz = some cs ∧ rep (Zold w) y cs ∧ cs.length = sz) ∧ ok y := by
   intro i hi
   have h1 := hf i hi
   rw [hc, List.getElem?_eq_getElem (by omega)] at h1
   obtain ⟨c1, hc1, h2⟩ := Option.bind_eq_some_iff.1 h1
   obtain ⟨y, hr, ho, hl⟩ := he en w spare held m _ _ h2 (fun k hk => hw k (by
    simp only [DataW.weights, hu]
    refine List.mem_cons_of_mem _ (List.mem_append_left _ ?_)
    exact weightsAll_mem (i := i) (by rw [List.getElem?_map, List.getElem?_eq_getElem (by omega)]; rfl) k hk))
   exact ⟨y, ⟨c1, hc1, hr, by rw [hl, hc]⟩, ho⟩
  obtain ⟨ys, hyl, hy⟩ := choose_list each
  have hwt := hw ((elems.length + rest.length) * P.bytesOf e) (by simp [DataW.weights, hu])
  refine ⟨ys, ⟨some a, cap, by rw [hyl], ⟨by rw [hyl]; simp only [maxLen] at hcm; omega, by omega, fun i y hi => ?_⟩⟩, ⟨?_, fun y hyy => ?_⟩, hct.symm⟩
  ·obtain ⟨⟨c1, hc1, hr, hl⟩, -⟩ := hy i y hi
   have hcell : ∀ j v, c1[j]? = some v → w.cell? ((a.add (i * sz)).add j) = some v := by
    obtain ⟨-, -, h3⟩ := World.cells?_some hc1
    intro j v hj
    have hjl : j < sz := by have := (List.getElem?_eq_some_iff.1 hj).1; omega
    rw [h3 j hjl]; exact hj
   have hsp : a.spot = none := by
    have hlen : 0 < ys.length := by have := (List.getElem?_eq_some_iff.1 hi).1; omega
    obtain ⟨⟨c0, hc0, -, hl0⟩, -⟩ := hy 0 _ (List.getElem?_eq_getElem hlen)
    obtain ⟨-, -, h3⟩ := World.cells?_some hc0
    obtain ⟨v, hv⟩ : ∃ v, c0[0]? = some v := ⟨_, List.getElem?_eq_getElem (by omega)⟩
    have := h3 0 (by omega)
    rw [hv] at this
    have e0 : (a.add (0 * sz)).add 0 = a := by simp [Addr.add]
    rw [e0] at this
    unfold World.cell? at this
    split at this
    ·split at this
     ·cases this
     ·rename_i hns; simpa using hns
    ·cases this
   obtain ⟨b, o, sp⟩ := a
   simp only at hsp
   subst hsp
   refine ⟨b, o, c1, rfl, hr, hl, fun j v hj => ?_⟩
   have := hcell j v hj
   rw [add_lit, add_lit] at this
   exact this
  ·rw [hyl, ← hel, ← hb]
   refine Nat.le_trans (Nat.mul_le_mul_right _ ?_) hwt
   omega
  ·obtain ⟨i, hi⟩ := List.mem_iff_getElem?.1 hyy
   exact (hy i y hi).2
theorem part_some {α : Type} {xs : List α} {n i : Nat} (hl : xs.length = n) (hi : i < n) : ∃ y, xs[i]? = some y := ⟨_, List.getElem?_eq_getElem (by omega)⟩
end Go.Proofs.YtcjaknnihjcajaaGreat.K
