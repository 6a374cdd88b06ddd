/- The document's Lay of so many states, whole; ways back; slices.Reverse. -/
import Derived.Test.YtfiamlhhhkiiaaaEH
set_option linter.unusedVariables false
set_option linter.unusedSimpArgs false
namespace Go.Proofs.Ytfiamlhhhkiiaaa.K
open Go Go.RowKit
section
variable {n : weirlaw14_Net}
theorem lay_t0 (hf : Fine n) (h0 : 0 ≤ n.Start ∧ n.Start < (n.Next.length : Int)) {a1 : Int} {m : Nat} (ha : ∀ c : Nat, (c : Int) ≥ a1 ↔ m ≤ c) (y43 : ByteArray) :
    ∀ (d i : Nat), i + d = n.Next.length → ∀ (tw : Bool) (p0 p1 p2 K : List (ByteArray × Int)) (M : List (List weirref14_Move)) (wh : Bool), Known ((B n i).take m) K (fun j => (j : Int)) → M.length = ((B n i).take m).length → MvT i 0 M → ((B n i).length ≤ m → MvOk n (B n i) i 0 M) → wh = decide ((B n i).length ≤ m) →
    ∃ tw' p0' p1' p2' K' M', weirref14_Lay.l0 y43 n a1 (i : Int) tw p0 p1 p2 K (tx ((B n i).take m)) (dp ((B n i).take m)) M (ens n ((B n i).take m)) (fis n ((B n i).take m)) (frs ((B n i).take m)) (bys ((B n i).take m)) wh = some (tx ((G n).take m), dp ((G n).take m), M', ens n ((G n).take m), fis n ((G n).take m), frs ((G n).take m), bys ((G n).take m), decide ((G n).length ≤ m), K', tw', p0', p1', p2') ∧ M'.length = ((G n).take m).length ∧ ((G n).length ≤ m → MvOk n (G n) (G n).length 0 M') := by
  have h6 := hf.few
  have done : ∀ (i : Nat), i ≤ n.Next.length → ((B n i).take m).length ≤ i → ∀ (tw : Bool) (p0 p1 p2 K : List (ByteArray × Int)) (M : List (List weirref14_Move)) (wh : Bool), M.length = ((B n i).take m).length → ((B n i).length ≤ m → MvOk n (B n i) i 0 M) → wh = decide ((B n i).length ≤ m) →
    ∃ tw' p0' p1' p2' K' M', weirref14_Lay.l0 y43 n a1 (i : Int) tw p0 p1 p2 K (tx ((B n i).take m)) (dp ((B n i).take m)) M (ens n ((B n i).take m)) (fis n ((B n i).take m)) (frs ((B n i).take m)) (bys ((B n i).take m)) wh = some (tx ((G n).take m), dp ((G n).take m), M', ens n ((G n).take m), fis n ((G n).take m), frs ((G n).take m), bys ((G n).take m), decide ((G n).length ≤ m), K', tw', p0', p1', p2') ∧ M'.length = ((G n).take m).length ∧ ((G n).length ≤ m → MvOk n (G n) (G n).length 0 M') := by
    intro i hi hl tw p0 p1 p2 K M wh hMl hM hwh
    have e1 : (tx ((B n i).take m)).length = ((B n i).take m).length := by unfold tx; simp
    rw [weirref14_Lay.l0, if_neg (nt (decide_eq_false (by rw [e1]; omega)))]
    rw [List.length_take] at hl
    subst hwh
    by_cases hb : (B n i).length ≤ i
    · rw [G_of hi hb]
      refine ⟨_, _, _, _, _, _, rfl, hMl, fun h => ⟨(hM h).1, fun j y hj => ?_⟩⟩
      have hjl := len_of hj
      rw [(hM h).2 j y hj, if_pos (by omega), if_pos (by omega)]
    · obtain ⟨t, ht⟩ := G_pre hi
      have hmi : m ≤ i := by omega
      have et : (G n).take m = (B n i).take m := by rw [ht, List.take_append_of_le_length (by omega)]
      have hg : (B n i).length ≤ (G n).length := by rw [ht, List.length_append]; omega
      rw [et, decide_eq_false (show ¬ (B n i).length ≤ m by omega), decide_eq_false (show ¬ (G n).length ≤ m by omega)]
      exact ⟨_, _, _, _, _, _, rfl, hMl, fun h => by omega⟩
  intro d
  induction d with
  | zero =>
    intro i hi tw p0 p1 p2 K M wh hK hMl hMt hM hwh
    exact done i (by omega) (by have := (B_wf h0 i).len; rw [List.length_take]; omega) _ _ _ _ _ _ _ hMl hM hwh
  | succ d ih =>
    intro i hi tw p0 p1 p2 K M wh hK hMl hMt hM hwh
    by_cases hl : ((B n i).take m).length ≤ i
    · exact done i (by omega) hl _ _ _ _ _ _ _ hMl hM hwh
    · rw [List.length_take] at hl
      have hx : (B n i)[i]? = some ((B n i)[i]'(by omega)) := List.getElem?_eq_getElem (by omega)
      generalize (B n i)[i]'(by omega) = x at hx
      have hw := B_wf h0 i
      have hT : ((B n i).take m)[i]? = some x := by rw [List.getElem?_take, if_pos (by omega)]; exact hx
      have e1 : (tx ((B n i).take m)).length = ((B n i).take m).length := by unfold tx; simp
      have hTl := len_of hT
      have g1 : gt (tx ((B n i).take m)) (i : Int) = nm x.s := gt_map (fun x => nm x.s) hT
      have hB := B_step hx
      have hG : ∃ t, G n = (succs n x.s).foldl (add x.d i) (B n i) ++ t := by rw [← hB]; exact G_pre (by omega)
      rw [weirref14_Lay.l0, if_pos (decide_eq_true (by rw [e1]; omega)), if_pos (by rw [e1]; omega), g1, m1_f hf (hw.lt x.s (ss_mem hx))]
      simp only [Option.bind_eq_bind, Option.bind_some]
      obtain ⟨tw', p1', p2', K', M', L', hL', h1, h2, h3, h4, h5⟩ := lay_t1 hf h0 ha hx (by omega) hw hG y43 (bump p0 (nm x.s)) (row n x.s).length 0 (by omega) (B n i) rfl (twice p0 (nm x.s) tw) p2 p1 K M wh hK hMl hMt hM hwh
      rw [show (((0 : Nat)) : Int) = (0 : Int) from rfl] at h1
      rw [h1]
      simp only [Option.bind_some]
      rw [← hB] at hL'
      subst hL'
      rw [w1 (by omega)]
      exact ih (i + 1) (by omega) _ _ _ _ _ _ _ h2 h3 h4 h5 rfl
theorem lay_tf (hf : Fine n) (h0 : 0 ≤ n.Start ∧ n.Start < (n.Next.length : Int)) {a1 : Int} {m : Nat} (ha : ∀ c : Nat, (c : Int) ≥ a1 ↔ m ≤ c) (p0 p1 p2 : List (ByteArray × Int)) (tw : Bool) :
    ∃ tw' p0' p1' p2' K' M', weirref14_Lay.f (nm n.Start.toNat) p0 p1 p2 tw n a1 = some (tx ((G n).take m), dp ((G n).take m), M', ens n ((G n).take m), fis n ((G n).take m), frs ((G n).take m), bys ((G n).take m), decide ((G n).length ≤ m), K', tw', p0', p1', p2') ∧ M'.length = ((G n).take m).length ∧ ((G n).length ≤ m → MvOk n (G n) (G n).length 0 M') := by
  have h6 := hf.few
  unfold weirref14_Lay.f
  simp only [Option.bind_eq_bind]
  rcases Nat.eq_zero_or_pos m with hm | hm
  · subst hm
    have hp := put_no (K := []) (t := nm n.Start.toNat) rfl [] [] [] [] [] [] [] true (nm n.Start.toNat) n p0 p1 p2 tw a1 0 (-1) ⟨0, 0, 0⟩ ((ha 0).2 (Nat.le_refl _))
    refine (?_ : ∃ tw' p0' p1' p2' K' M', Option.bind _ _ = _ ∧ _)
    rw [hp]
    simp only [Option.bind_some]
    obtain ⟨tw', p0', p1', p2', K', M', h1, h2⟩ := lay_t0 hf h0 ha (nm n.Start.toNat) n.Next.length 0 (by omega) tw p0 p1 p2 [] [] false ⟨fun j y hj => by simp at hj, fun u _ _ => rfl⟩ rfl ⟨Nat.le_refl _, fun _ _ => rfl⟩ (fun h => absurd h (by simp [B])) (by simp [B])
    refine ⟨tw', p0', p1', p2', K', M', ?_, h2⟩
    rw [show (((0 : Nat)) : Int) = (0 : Int) from rfl] at h1
    exact (congrArg (fun r => Option.bind r _) h1)
  · have hp := put_new hf (n := n) (L := []) (K := []) (u := n.Start.toNat) (by omega) rfl (by simp) (M := []) rfl (a2 := a1) (Int.lt_of_not_ge fun h => absurd ((ha 0).1 h) (by omega)) true (nm n.Start.toNat) p0 p1 p2 tw 0 (-1) ⟨0, 0, 0⟩
    refine (?_ : ∃ tw' p0' p1' p2' K' M', Option.bind _ _ = _ ∧ _)
    rw [show weirref14_Graph__put.f ([] : List ByteArray) ([] : List Int) ([] : List (List weirref14_Move)) ([] : List Bool) ([] : List api_Final) ([] : List Int) ([] : List api_Pick) true ([] : List (ByteArray × Int)) (nm n.Start.toNat) p0 p1 p2 tw n a1 (nm n.Start.toNat) 0 (-1) (⟨0, 0, 0⟩ : api_Pick) = _ from hp]
    simp only [Option.bind_some]
    have eT : (B n 0).take m = B n 0 := List.take_of_length_le (by simp [B]; omega)
    have hlt := lay_t0 hf h0 ha (nm n.Start.toNat) n.Next.length 0 (by omega) (twice p1 (nm n.Start.toNat) tw) p0 (bump p1 (nm n.Start.toNat)) p2 (mput [] (nm n.Start.toNat) 0) [[]] true
    rw [eT] at hlt
    obtain ⟨tw', p0', p1', p2', K', M', h1, h2⟩ := hlt (Known.start (x := ⟨n.Start.toNat, 0, -1, ⟨0, 0, 0⟩⟩) (f := fun j => (j : Int)) (n := n) (by show n.Start.toNat < _; omega)) rfl ⟨Nat.le_refl _, fun j hj => by
      unfold gt
      rw [Int.toNat_natCast, List.getD_eq_getElem?_getD, List.getElem?_eq_none (by simp; omega)]; rfl⟩ (fun _ => ⟨rfl, fun j y hj => by
      cases j with
      | zero => simp [B] at hj; subst hj; rfl
      | succ j => simp [B] at hj⟩) (by simp [B]; omega)
    refine ⟨tw', p0', p1', p2', K', M', ?_, h2⟩
    rw [show (((0 : Nat)) : Int) = (0 : Int) from rfl] at h1
    exact (congrArg (fun r => Option.bind r _) h1)
theorem G_wf' (h0 : 0 ≤ n.Start ∧ n.Start < (n.Next.length : Int)) : Wf n (G n) := B_wf h0 _
/-! ### Whence states were first come to -/
end
/-! ### slices.Reverse -/
end Go.Proofs.Ytfiamlhhhkiiaaa.K
