/- The program's Runs, whole. -/
import Derived.Test.YtfiamlhhhkiiaaaHE
set_option linter.unusedVariables false
set_option linter.unusedSimpArgs false
namespace Go.Proofs.Ytfiamlhhhkiiaaa.K
open Go Go.RowKit
section
variable {n : weirlaw14_Net}
def EBD (n : weirlaw14_Net) (D : List Nat) (p1 : List (ByteArray × Int)) : Prop :=
  (∀ j x, (G n)[j]? = some x → j ∉ D → mget p1 (nm x.s) = none) ∧ ∀ kv ∈ p1, ∃ u ∈ ss (G n), kv.1 = nm u
theorem EBD.next (hf : Fine n) (h0 : 0 ≤ n.Start ∧ n.Start < (n.Next.length : Int)) {D : List Nat} {p1 : List (ByteArray × Int)} (h : EBD n D p1) {j : Nat} {x : Nd} (hx : (G n)[j]? = some x) (hj : j ∉ D) : twice p1 (nm x.s) false = false ∧ EBD n (j :: D) (bump p1 (nm x.s)) := by
  refine ⟨twice_no (h.1 j x hx hj), fun t z hz ht => ?_, fun kv hkv => ?_⟩
  · unfold bump
    rw [List.mem_cons] at ht
    rw [mget_mput, if_neg fun e => ht (.inl (nm_ne hf h0 hz hx e))]
    exact h.1 t z hz fun h2 => ht (.inr h2)
  · rcases mput_mem hkv with h1 | h1
    · exact h.2 kv h1
    · exact ⟨x.s, ss_mem hx, by rw [h1]⟩
theorem back_l0 (hf : Fine n) (h0 : 0 ≤ n.Start ∧ n.Start < (n.Next.length : Int)) {M : List (ByteArray × List explore_edge)} (hM : KMoves n (G n).length M) {out : List Nat} (ht : Topo n out) (st : ByteArray) (p0 p2 : List (ByteArray × Int)) (sts : List ByteArray) :
    ∀ (c : Nat), c ≤ out.length → ∀ (p1 ways : List (ByteArray × Int)) (big : List (ByteArray × Bool)), WM n (out.drop c) ways big → EBD n (out.drop c) p1 →
    ∃ p1' ways' big', slices_Backward___string_string__1.l0 st p0 p2 n sts M (RT n out) ((c : Int) - 1) false p1 ways big = some (.inl (false, p1', ways', big')) ∧ WM n out ways' big' ∧ EBD n out p1' := by
  have h6 := hf.few
  have hg := (G_wf h0).len
  have hol := ht.len
  intro c
  induction c with
  | zero =>
    intro hc p1 ways big hW hE
    rw [slices_Backward___string_string__1.l0, if_neg (nt (decide_eq_false (by omega)))]
    rw [List.drop_zero] at hW hE
    exact ⟨_, _, _, rfl, hW, hE⟩
  | succ c ih =>
    intro hc p1 ways big hW hE
    have hj : out[c]? = some (out[c]'(by omega)) := List.getElem?_eq_getElem (by omega)
    have hdr : out.drop c = out[c]'(by omega) :: out.drop (c + 1) := List.drop_eq_getElem_cons (by omega)
    generalize out[c]'(by omega) = j at hj hdr
    have hjG : j < (G n).length := (ht.all j).2 (List.mem_of_getElem? hj)
    have hx : (G n)[j]? = some ((G n)[j]'hjG) := List.getElem?_eq_getElem hjG
    generalize (G n)[j]'hjG = x at hx
    have hjD : j ∉ out.drop (c + 1) := by
      intro hm
      have hnd : (out.drop c).Nodup := ht.nodup.sublist (List.drop_sublist ..)
      rw [hdr] at hnd
      exact (List.nodup_cons.1 hnd).1 hm
    have hgt : gt (RT n out) (c : Int) = nm x.s := by
      unfold gt RT
      rw [Int.toNat_natCast, List.getD_eq_getElem?_getD, List.getElem?_map, hj]
      show txt n j = _
      exact txt_at hx
    have hRl : (RT n out).length = out.length := by unfold RT; simp
    obtain ⟨t1, t2⟩ := hE.next hf h0 hx hjD
    have hD : ∀ t ∈ adj n j, t ∈ out.drop (c + 1) := by
      intro t h
      obtain ⟨k, k1, k2⟩ := ht.later h0 hj h
      have : (out.drop (c + 1))[k - (c + 1)]? = some t := by rw [List.getElem?_drop, show c + 1 + (k - (c + 1)) = k by omega]; exact k2
      exact List.mem_of_getElem? this
    have hrun := run_l0 hf h0 hx (hM j x hx hjG) hW hD (succs n x.s) [] rfl (if isEnd n j then 1 else 0, false)
    rw [← adj_pl hx, ← worth_eq h0 ht j] at hrun
    rw [show (([] : List (api_Pick × Nat)).length : Int) = (0 : Int) from rfl, isEnd_at hx] at hrun
    rw [show (((c + 1 : Nat) : Int) - 1) = (c : Int) by omega, slices_Backward___string_string__1.l0, if_pos (decide_eq_true (by omega)), if_pos (by rw [hRl]; omega), hgt]
    unfold explore_Runs_r.f
    rw [m3_g hf ((G_wf h0).lt x.s (ss_mem hx)), t1]
    simp only [Option.bind_eq_bind, Option.bind_some]
    have hn0 : (if (mEnd n x.s).2 = true then some (1 : Int) else some 0) = some (if (mEnd n x.s).2 then 1 else 0) := by split <;> rfl
    rw [hn0]
    simp only [Option.bind_some]
    simp only at hrun
    rw [hrun]
    simp only [Option.bind_some, decide_true, if_true]
    have hwm := hW.next hf h0 hx
    rw [← hdr] at hwm t2
    have hi := ih (by omega) _ _ _ hwm t2
    rw [show IntKind.i64.wrap ((c : Int) - 1) = (c : Int) - 1 from wi64_id (by omega) (by omega)]
    exact hi
theorem runs_f (hf : Fine n) (h0 : 0 ≤ n.Start ∧ n.Start < (n.Next.length : Int)) {most : Int} {m : Nat} (hmost : ∀ c : Nat, c < 70000 → ((c : Int) ≥ most ↔ m ≤ c)) :
    ∃ (c e : Int) (p0' p1' p2' : List (ByteArray × Int)), (∀ kv ∈ p0', ∃ u ∈ ss (G n), kv.1 = nm u) ∧ (∀ kv ∈ p1', ∃ u ∈ ss (G n), kv.1 = nm u) ∧ explore_Runs.f (nm n.Start.toNat) [] [] [] false n most = some (c, e, false, p0', p1', p2') ∧
      ((m < (G n).length ∧ c = 0 ∧ e = 1) ∨ ((G n).length ≤ m ∧ (∃ out, Topo n out) ∧ (c, e) = if (worth n 0).2 = true then (0, 30) else ((worth n 0).1, 0)) ∨ ((G n).length ≤ m ∧ (∃ out w, KInv (adj n) (G n).length out [] w ∧ out.length ≠ (G n).length) ∧ c = 0 ∧ e = 30)) := by
  have h6 := hf.few
  have hg := (G_wf h0).len
  obtain ⟨p0', p2', M, hk, hc⟩ := all_f hf h0 hmost
  unfold explore_Runs.f
  rcases hc with ⟨hm, hM, he⟩ | ⟨hm, he⟩
  · rw [he]
    simp only [Option.bind_eq_bind, Option.bind_some, Bool.not_true, Bool.false_eq_true, if_false]
    obtain ⟨out, w, o1, o2⟩ := ordered_f hf h0 hM
    rw [o1]
    simp only [Option.bind_some]
    by_cases hl : out.length = (G n).length
    · have ht := o2.topo hl
      have hG0 : (G n)[0]? = some ⟨n.Start.toNat, 0, -1, ⟨0, 0, 0⟩⟩ := G_at (i := 0) (by omega) rfl
      obtain ⟨p1', ways, big, b1, b2, b3⟩ := back_l0 hf h0 hM ht (nm n.Start.toNat) p0' p2' (tx (G n)) out.length (Nat.le_refl _) [] [] [] (fun t h => by rw [List.drop_length] at h; cases h) ⟨fun _ _ _ _ => rfl, fun kv h => (by cases h)⟩
      have hRl : (RT n out).length = out.length := by unfold RT; simp
      rw [decide_eq_true hl, if_neg (show ¬ (!true) = true by decide)]
      unfold slices_Backward___string_string.f slices_Backward___string_string__1.f
      simp only [Option.bind_some]
      rw [hRl, wi64_id (by omega) (by omega), b1]
      simp only [Option.bind_eq_bind, Option.bind_some, if_true]
      obtain ⟨v1, v2⟩ := b2 0 ((ht.all 0).1 (len_of hG0)) _ hG0
      rw [show nm (⟨n.Start.toNat, 0, -1, ⟨0, 0, 0⟩⟩ : Nd).s = nm n.Start.toNat from rfl] at v1 v2
      rw [v1, v2]
      simp only [Option.getD_some]
      by_cases hb : (worth n 0).2 = true
      · rw [if_pos hb]
        exact ⟨0, 30, p0', p1', p2', hk, b3.2, rfl, .inr (.inl ⟨hm, ⟨out, ht⟩, by rw [if_pos hb]⟩)⟩
      · rw [if_neg hb]
        exact ⟨(worth n 0).1, 0, p0', p1', p2', hk, b3.2, rfl, .inr (.inl ⟨hm, ⟨out, ht⟩, by rw [if_neg hb]⟩)⟩
    · rw [decide_eq_false hl, if_pos (show (!false) = true from rfl)]
      exact ⟨0, 30, p0', [], p2', hk, fun kv h => (by cases h), rfl, .inr (.inr ⟨hm, ⟨out, w, o2, hl⟩, rfl, rfl⟩)⟩
  · rw [he]
    exact ⟨0, 1, p0', [], p2', hk, fun kv h => (by cases h), rfl, .inl ⟨hm, rfl, rfl⟩⟩
end
end Go.Proofs.Ytfiamlhhhkiiaaa.K
