/- The law's end: what came in, opened; what a call that turns nothing old and answers true owes the statement. -/
import Derived.Test.YtboejepakdnbgaaGreatDoorN9
import Derived.ProofKit
import Derived.OpenShut
import Derived.Carry
import Derived.JoinedCond
import Derived.SizedLaws
set_option linter.unusedVariables false
set_option linter.unusedSimpArgs false
namespace Go.Proofs.YtboejepakdnbgaaGreatDoor.K
open Go Go.RowKit Go.ChangeShapes Go.WideShapes Go.ChangeAt

section
variable {H : Type} {enc : TypeId × Value → H} {P : Program}
theorem trodAll_stays (hl : laidOutB P = true) {W W' : World} (hf : FrB0 W W') {sp : Nat → Bool} : ∀ {ts : List TypeId} {vs : List Value} {ds : List (DataW H)} {ps : List MemPlace},
    (∀ t ∈ ts, P.readableRec t = true ∧ t < P.types.size) → (∀ x ∈ ps, x.block < W.heap.size ∧ sp x.block = true) → DataW.TrodAll enc P W 0 (fun _ => true) true ts vs ds ps → DataW.TrodAll enc P W' 0 sp true ts vs ds ps
  | [], [], [], _, _, _, h => h
  | t :: ts, v :: vs, d :: ds, ps, hr, hs, h => by
    obtain ⟨p, q, h1, h2, rfl⟩ := h
    have hb := hf.ext
    exact ⟨p, q, WideElems.Trod_stays hl (hr t (by simp)).1 (hr t (by simp)).2 h1 (fun x hx => hb.same (hs x (by simp [hx])).1) (fun x hx => (hs x (by simp [hx])).2),
      trodAll_stays hl hf (fun t ht => hr t (by simp [ht])) (fun x hx => hs x (by simp [hx])) h2, rfl⟩
  | [], [], _ :: _, _, _, _, h | [], _ :: _, _, _, _, _, h | _ :: _, [], _, _, _, _, h | _ :: _, _ :: _, [], _, _, _, h => by simp [DataW.TrodAll] at h

def rowedB (P : Program) (ts : List TypeId) : Bool := ts.all fun t => P.readableRec t && decide (t < P.types.size)
theorem fr_frozen {W W' : World} (hf : FrB0 W W') {a : Addr} (h : a.block < W.heap.size) : W'.frozen? a = W.frozen? a := by
  unfold World.frozen?
  rw [hf.block a.block h (fun f => f)]
theorem fr_kept {W W' : World} (hf : FrB0 W W') (may : MemPlace → Prop) : W.keptBut W' may := by
  refine ⟨hf.os, hf.output, fun i hi => ?_⟩
  rw [hf.block i hi (fun f => f)]
  have ho : W.heap[i]? = some W.heap[i] := Array.getElem?_eq_getElem hi
  rw [ho]
  cases W.heap[i] <;> simp

theorem law_post {f : Func} {s : ChangeSpec} {apart fresh handsOn again : Bool} {W W' : World} {args : Array Value} {ds gs : List (DataW H)} {before : List MemPlace} {tb : TypeId} (hl : laidOutB P = true) (hr : rowedB P f.params.toList = true)
    (hW : DataW.Whole enc P f.params.toList s.vars apart W args.toList ds gs before) (hv : s.vars = []) (hf : FrB0 W W') (hs : s.fn H ds = { results := [.lit (.bool true)], args := ds, vars := [] }) (ht : f.resultTypes = #[tb]) (hb : P.underlying tb = some .bool) :
    s.post enc P f apart fresh handsOn again W args (.bool true) W' := by
  have hlt : ∀ x ∈ before, x.block < W.heap.size := hW.lt
  have hW' := hW
  obtain ⟨p, q, hA, hV, rfl, hz, hn⟩ := hW
  rw [hv] at hV
  obtain ⟨rfl, rfl⟩ : gs = [] ∧ q = [] := by
    cases gs with
    | nil => exact ⟨rfl, hV⟩
    | cons g gs => exact hV.elim
  simp only [List.append_nil] at *
  have hrr : ∀ t ∈ f.params.toList, P.readableRec t = true ∧ t < P.types.size := by
    intro t h
    have := List.all_eq_true.1 hr t h
    simpa using this
  have key : ∀ sp : Nat → Bool, (∀ x ∈ p, sp x.block = true) → DataW.TrodAll enc P W' 0 sp true f.params.toList args.toList ds p := fun sp h => trodAll_stays hl hf hrr (fun x hx => ⟨hlt x hx, h x hx⟩) hA
  have hres : ∀ b sp hd, DataW.TrodAll enc P W' b sp hd f.resultTypes.toList ((Value.bool true).resultList f.resultTypes.size) [(.lit (.bool true) : DataW H)] [] := by
    intro b sp hd
    rw [ht]
    exact trodAll_cons_mk (shut_bool hb true) trodAll_mk0
  have hok : ∀ (j : Nat) (t : TypeId) (r : Value), f.resultTypes[j]? = some t → ((Value.bool true).resultList f.resultTypes.size)[j]? = some r → Value.okWide P W' .any 0 t r := ok_one ht rfl (okWide_bool_mk hb true)
  refine ⟨ds, [], p, [], p, [], by simpa using hW', ?_, ?_, ?_, fr_kept hf _, fun _ => ⟨hok, [.lit (.bool true)] ++ ds, [], p, ⟨p, [], ?_, by rw [hv]; exact rfl, by simp, ?_, ?_⟩, fun x hx _ => hx⟩⟩
  · rw [List.append_nil, hs]; exact hres _ _ _
  · rw [List.append_nil, hs]; exact key _ (fun x hx => by simpa using hlt x hx)
  · rw [List.append_nil, hs, hv]; exact rfl
  · have := trodAll_append (key (fun _ => true) (fun _ _ => rfl)) (hres 0 (fun _ => true) true)
    simpa using this
  · intro b off hp
    rw [fr_frozen hf (a := ⟨b, off, none⟩) (hlt _ hp)]
    exact hz b off hp
  · intro ha; exact hn ha
end


/-! ### What came in -/
def Zold (w : World) : Zm := ⟨fun b o v => w.cell? ⟨b, o, none⟩ = some v, fun b x => w.heap[b]? = some x, False⟩
theorem St.start (w : World) : St w (Zold w) [] w := ⟨FrB.refl _ _, (fun m => m.elim), fun _ _ _ h => h, fun _ _ h => h, by simp, by simp, List.Pairwise.nil, by simp, by simp⟩
abbrev bnd : Nat := reachBytes
def Opens {α : Type} (P : Program) (t : TypeId) (rep : Zm → α → List Value → Prop) (ok : α → Prop) : Prop :=
  ∀ {H : Type} (enc : TypeId × Value → H) (w : World) (spare : Nat → Bool) (held : Bool) (fuel : Nat) (cs : List Value) (x : DataW H × List MemPlace), DataW.trod enc P w 0 spare held fuel t cs = some x → (∀ n ∈ x.1.weights P t, n ≤ bnd) →
    ∃ y, rep (Zold w) y cs ∧ ok y ∧ cs.length = P.cellsOf t
theorem opens_str {P : Program} {t : TypeId} (hu : P.underlying t = some .string) (hc : P.cellsOf t = 1) : Opens P t (flat encS) (fun s => s.size ≤ bnd) := by
  intro H enc w spare held fuel cs x h hw
  obtain ⟨s, rfl, rfl, hs⟩ := DataW.trod_string hu h
  refine ⟨s, rfl, ?_, hc.symm⟩
  have := hw s.data.toList.length (by simp [DataW.weights])
  simpa using this
end Go.Proofs.YtboejepakdnbgaaGreatDoor.K
