/- The law's end: what a call that turns nothing old and answers true owes the statement; what came in, opened. -/
import Derived.Test.YteppciglfdiljaaK5
import Derived.ProofKit
import Derived.OpenShut
import Derived.Carry
import Derived.JoinedCond
set_option linter.unusedVariables false
set_option linter.unusedSimpArgs false
namespace Go.Proofs.Yteppciglfdiljaa.K
open Go Go.RowKit Go.ChangeShapes Go.WideShapes Go.ChangeAt

section
variable {H : Type} {enc : TypeId × Value → H} {P : Program}
theorem trodAll_stays (hl : laidOutB P = true) {W W' : World} (hf : Fr [] W W') {sp : Nat → Bool} : ∀ {ts : List TypeId} {vs : List Value} {ds : List (DataW H)} {ps : List MemPlace},
    (∀ t ∈ ts, P.readableRec t = true ∧ t < P.types.size) → (∀ x ∈ ps, x.block < W.heap.size ∧ sp x.block = true) → DataW.TrodAll enc P W 0 (fun _ => true) true ts vs ds ps → DataW.TrodAll enc P W' 0 sp true ts vs ds ps
  | [], [], [], _, _, _, h => h
  | t :: ts, v :: vs, d :: ds, ps, hr, hs, h => by
    obtain ⟨p, q, h1, h2, rfl⟩ := h
    have hb := hf.ext
    exact ⟨p, q, WideElems.Trod_stays hl (hr t (by simp)).1 (hr t (by simp)).2 h1 (fun x hx => hb.same (hs x (by simp [hx])).1) (fun x hx => (hs x (by simp [hx])).2),
      trodAll_stays hl hf (fun t ht => hr t (by simp [ht])) (fun x hx => hs x (by simp [hx])) h2, rfl⟩
  | [], [], _ :: _, _, _, _, h | [], _ :: _, _, _, _, _, h | _ :: _, [], _, _, _, _, h | _ :: _, _ :: _, [], _, _, _, h => by simp [DataW.TrodAll] at h

def rowedB (P : Program) (ts : List TypeId) : Bool := ts.all fun t => P.readableRec t && decide (t < P.types.size)
theorem fr_frozen {W W' : World} (hf : Fr [] W W') {a : Addr} (h : a.block < W.heap.size) : W'.frozen? a = W.frozen? a := by
  unfold World.frozen?
  rw [hf.block a.block h (by simp)]
theorem fr_kept {W W' : World} (hf : Fr [] W W') (may : MemPlace → Prop) : W.keptBut W' may := by
  refine ⟨hf.os, hf.output, fun i hi => ?_⟩
  rw [hf.block i hi (by simp)]
  have ho : W.heap[i]? = some W.heap[i] := Array.getElem?_eq_getElem hi
  rw [ho]
  cases W.heap[i] <;> simp

theorem law_post {f : Func} {s : ChangeSpec} {apart fresh handsOn again : Bool} {W W' : World} {args : Array Value} {ds gs : List (DataW H)} {before : List MemPlace} {tb : TypeId} (hl : laidOutB P = true) (hr : rowedB P f.params.toList = true)
    (hW : DataW.Whole enc P f.params.toList s.vars apart W args.toList ds gs before) (hv : s.vars = []) (hf : Fr [] W W') (hs : s.fn H ds = { results := [.lit (.bool true)], args := ds, vars := [] }) (ht : f.resultTypes = #[tb]) (hb : P.underlying tb = some .bool) :
    s.post enc P f apart fresh handsOn again W args (.bool true) W' := by
  have hlt : ∀ x ∈ before, x.block < W.heap.size := hW.lt
  have hW' := hW
  obtain ⟨p, q, hA, hV, rfl, hz, hn⟩ := hW
  rw [hv] at hV
  obtain ⟨rfl, rfl⟩ : gs = [] ∧ q = [] := by
    cases gs with
    | nil => exact ⟨rfl, hV⟩
    | cons g gs => exact hV.elim
  simp only [List.append_nil] at *
  have hrr : ∀ t ∈ f.params.toList, P.readableRec t = true ∧ t < P.types.size := by
    intro t h
    have := List.all_eq_true.1 hr t h
    simpa using this
  have key : ∀ sp : Nat → Bool, (∀ x ∈ p, sp x.block = true) → DataW.TrodAll enc P W' 0 sp true f.params.toList args.toList ds p := fun sp h => trodAll_stays hl hf hrr (fun x hx => ⟨hlt x hx, h x hx⟩) hA
  have hres : ∀ b sp hd, DataW.TrodAll enc P W' b sp hd f.resultTypes.toList ((Value.bool true).resultList f.resultTypes.size) [(.lit (.bool true) : DataW H)] [] := by
    intro b sp hd
    rw [ht]
    exact trodAll_cons_mk (shut_bool hb true) trodAll_mk0
  have hok : ∀ (j : Nat) (t : TypeId) (r : Value), f.resultTypes[j]? = some t → ((Value.bool true).resultList f.resultTypes.size)[j]? = some r → Value.okWide P W' .any 0 t r := ok_one ht rfl (okWide_bool_mk hb true)
  refine ⟨ds, [], p, [], p, [], by simpa using hW', ?_, ?_, ?_, fr_kept hf _, fun _ => ⟨hok, [.lit (.bool true)] ++ ds, [], p, ⟨p, [], ?_, by rw [hv]; exact rfl, by simp, ?_, ?_⟩, fun x hx _ => hx⟩⟩
  · rw [List.append_nil, hs]; exact hres _ _ _
  · rw [List.append_nil, hs]; exact key _ (fun x hx => by simpa using hlt x hx)
  · rw [List.append_nil, hs, hv]; exact rfl
  · have := trodAll_append (key (fun _ => true) (fun _ _ => rfl)) (hres 0 (fun _ => true) true)
    simpa using this
  · intro b off hp
    rw [fr_frozen hf (a := ⟨b, off, none⟩) (hlt _ hp)]
    exact hz b off hp
  · intro ha; exact hn ha
end

/-! ### What came in, opened: the cells are an encoding -/
section
variable {H : Type} {enc : TypeId × Value → H} {P : Program} {w : World} {base : Nat} {spare : Nat → Bool} {held : Bool} {fuel : Nat} {t : TypeId} {cs : List Value} {x : DataW H × List MemPlace}
theorem wf0 (k : IntKind) : (Lit.int k 0).wf = true := by cases k <;> decide
theorem rd_arrI {n : Nat} {e : TypeId} {k : IntKind} (ht : P.underlying t = some (.array n e)) (he : P.underlying e = some (.int k)) (hc : P.cellsOf e = 1) (hn : P.cellsOf t = n) (h : DataW.trod enc P w base spare held fuel t cs = some x) :
    ∃ v : Vector Int n, cs = v.toList.map (Value.int k) ∧ ∀ i, (Lit.int k (vget v i)).wf = true := by
  obtain ⟨xs, m, -, -, hl, hxl, hf⟩ := DataW.trod_array ht h
  rw [hn] at hl
  have each : ∀ i, i < n → ∃ a, cs[i]? = some (.int k a) ∧ (Lit.int k a).wf = true := by
    intro i hi
    have h1 := hf i hi
    rw [hc, Nat.mul_one, List.getElem?_eq_getElem (by omega)] at h1
    obtain ⟨a, h2, -, h3⟩ := DataW.trod_int he h1
    refine ⟨a, ?_, h3⟩
    have := congrArg (·[0]?) h2
    simpa [List.getElem?_take, List.getElem?_drop] using this
  have hlen : (cs.map fun u => match u with | .int _ a => a | _ => 0).toArray.size = n := by simp [hl]
  refine ⟨⟨(cs.map fun u => match u with | .int _ a => a | _ => 0).toArray, hlen⟩, ?_, ?_⟩
  · simp only [Vector.toList_mk, List.map_map]
    refine List.ext_getElem (by simp) fun i h1 h2 => ?_
    obtain ⟨a, ha, -⟩ := each i (by omega)
    rw [List.getElem?_eq_getElem h1] at ha
    simp only [Option.some.injEq] at ha
    simp [ha]
  · intro i
    unfold vget
    simp only [Vector.toList_mk]
    rw [List.getD_eq_getElem?_getD, List.getElem?_map]
    by_cases hi : i.toNat < n
    · obtain ⟨a, ha, hw⟩ := each i.toNat hi
      rw [ha]; exact hw
    · rw [List.getElem?_eq_none (by omega)]
      exact wf0 k
theorem part_some {xs : List (DataW H × List MemPlace)} {n i : Nat} (hl : xs.length = n) (hi : i < n) : ∃ y, xs[i]? = some y := ⟨_, List.getElem?_eq_getElem (by omega)⟩
end
end Go.Proofs.Yteppciglfdiljaa.K
