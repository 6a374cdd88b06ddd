/- The two readers: what the document opens; what the program looks at. -/
import Derived.Test.YtkhcbamlhckilaaGreatDoorLG
set_option linter.unusedVariables false
set_option linter.unusedSimpArgs false
namespace Go.Proofs.YtkhcbamlhckilaaGreatDoor.K
open Go

def endT (s : ByteArray) : Option (Int × Nat) → api_Token
  | none => ⟨0, (⟨#[]⟩ : ByteArray), 0, (plc s s.size).1, (plc s s.size).2, (s.size : Int), (s.size : Int)⟩
  | some (_, p) => ⟨0, (⟨#[]⟩ : ByteArray), 0, (plc s p).1, (plc s p).2, (s.size : Int), (s.size : Int)⟩
abbrev tT (s : ByteArray) : List api_Token := (tks s (s.size + 1) 0).1
abbrev tB (s : ByteArray) : Option (Int × Nat) := (tks s (s.size + 1) 0).2
theorem tks_b (s : ByteArray) (hs : s.size ≤ 1048576) : (tT s).length ≤ s.size ∧ ∀ c p, tB s = some (c, p) → c ≠ 0 ∧ p ≤ s.size :=
  (toks_l s hs (s.size + 1) 0 0 [] (by omega) (Nat.le_refl _) (by omega) (Nat.le_refl _)).2
theorem open_d (s : ByteArray) (hs : s.size ≤ 1048576) :
    weirref07_open.f s = some (true, tT s ++ [endT s (tB s)], flt s (tB s), 0, ⟨0, 0, 0⟩, ⟨#[]⟩, ⟨#[]⟩, [], [], 0, [], [], [], [], 0, ⟨0, 0, 0⟩) := by
  obtain ⟨hl, hb⟩ := tks_b s hs
  unfold weirref07_open.f
  rw [if_neg (nt (decide_eq_false (by omega))), toks_d s hs]
  simp only [Option.bind_eq_bind, Option.bind_some]
  have h62 : ((if (flt s (tB s)).Code == 0 then (weirref05_Place.f s (s.size : Int)).bind (fun (x : Int × Int × Bool) => some (⟨0, (⟨#[]⟩ : ByteArray), 0, x.1, x.2.1, (s.size : Int), (s.size : Int)⟩ : api_Token)) else some ⟨0, (⟨#[]⟩ : ByteArray), 0, (flt s (tB s)).Line, (flt s (tB s)).Col, (s.size : Int), (s.size : Int)⟩) : Option api_Token) = some (endT s (tB s)) := by
    cases hB : tB s with
    | none =>
      rw [show (flt s none).Code = 0 from rfl, if_pos (by rfl), place_f s hs s.size (Nat.le_refl _)]; rfl
    | some x =>
      obtain ⟨c, p⟩ := x
      have := hb c p hB
      rw [show (flt s (some (c, p))).Code = c from rfl, if_neg (by rw [beq_iff_eq]; exact this.1)]; rfl
  rw [h62]
  simp only [Option.bind_some]
  rw [if_pos (by rw [List.length_singleton]; have := hl; unfold tT at this; omega)]
/-- The program's reader (tokens held, place) against the document's (place in the list). -/
def Rdr (s : ByteArray) (L : List api_Token) (bad : Option (Int × Nat)) (h : List api_Token) (a i : Nat) : Prop :=
  ∃ n, s.size < a + n ∧ a ≤ s.size ∧
    ((h = [] ∧ (tks s n a).2 = bad ∧ L.drop i = (tks s n a).1 ++ [endT s bad]) ∨
     (∃ t, h = [t] ∧ t.Kind ≠ 0 ∧ (tks s n a).2 = bad ∧ L.drop i = t :: ((tks s n a).1 ++ [endT s bad])) ∨
     (∃ t, h = [t] ∧ t.Kind = 0 ∧ bad = none ∧ L.drop i = [t]))
theorem nx_end {s : ByteArray} {a : Nat} {t : api_Token} {e : Nat} (ha : a ≤ s.size) (h : nxE s a = .inr (t, e)) (hk : t.Kind = 0) : t = endT s none ∧ e = s.size := by
  have hbl := blE_b s s.size a ha
  unfold nxE at h
  split at h
  · cases h
  · split at h
    · cases h; exact ⟨rfl, rfl⟩
    · rename_i h1 h2
      have hlt : blA s a < s.size := by have := hbl.2.1; unfold blA at h2 ⊢; omega
      cases hT : tkE s (blA s a) with
      | inl x => rw [hT] at h; cases h
      | inr x =>
        obtain ⟨k, t0, v, e0⟩ := x
        rw [hT] at h
        cases h
        exact absurd hk ((tkE_b hlt).2 k t0 v _ hT).1
theorem drop_at {L : List api_Token} {i : Nat} {t : api_Token} {r : List api_Token} (h : L.drop i = t :: r) : i < L.length ∧ gt L (i : Int) = t ∧ L.drop (i + 1) = r := by
  have hl := congrArg List.length h
  rw [List.length_drop, List.length_cons] at hl
  have hi : i < L.length := by omega
  rw [List.drop_eq_getElem_cons hi] at h
  injection h with h1 h2
  exact ⟨hi, by rw [gt_nat hi, h1], h2⟩
noncomputable abbrev lk (s : ByteArray) (h : List api_Token) (a : Nat) (T : api_Test) (p3 p4 : List litmus_place) (p5 : List (List litmus_place)) (p6 p7 : List litmus_place) := litmus_reader__look.f s (a : Int) (plc s a).1 (plc s a).2 .nil h T p3 p4 p5 p6 p7 0
theorem look_p {s : ByteArray} (hs : s.size ≤ 1048576) {L : List api_Token} {bad : Option (Int × Nat)} {h : List api_Token} {a i : Nat} (hR : Rdr s L bad h a i) (T : api_Test) (p3 p4 : List litmus_place) (p5 : List (List litmus_place)) (p6 p7 : List litmus_place) :
    (∃ (t : api_Token) (a' : Nat), lk s h a T p3 p4 p5 p6 p7 = some (.inr (t, [t], (a' : Int), (plc s a').1, (plc s a').2, .nil)) ∧ Rdr s L bad [t] a' i ∧ i < L.length ∧ gt L (i : Int) = t) ∨
    (∃ (c : Int) (p : Nat), bad = some (c, p) ∧ c ≠ 0 ∧ lk s h a T p3 p4 p5 p6 p7 = some (.inl (.pos (plc s p).1 (plc s p).2 c)) ∧ L.drop i = [endT s bad]) := by
  have held : ∀ t : api_Token, lk s [t] a T p3 p4 p5 p6 p7 = some (.inr (t, [t], (a : Int), (plc s a).1, (plc s a).2, .nil)) := by
    intro t
    unfold lk litmus_reader__look.f
    rw [litmus_reader__look.l0, if_neg (nt (decide_eq_false (by rw [List.length_singleton]; omega)))]
    rfl
  obtain ⟨n, hn, ha, ⟨rfl, hb, hL⟩ | ⟨t, rfl, hk, hb, hL⟩ | ⟨t, rfl, hk, hb, hL⟩⟩ := hR
  · obtain ⟨m, rfl⟩ : ∃ m, n = m + 1 := ⟨n - 1, by omega⟩
    rw [tks_s] at hb hL
    have hd := dnext s hs a 0 ha (Nat.zero_le _)
    cases hx : nxE s a with
    | inl x =>
      obtain ⟨c, p⟩ := x
      right
      rw [hx] at hb hL
      simp only at hb hL
      refine ⟨c, p, hb.symm, (hd.1 c p hx).1, ?_, hL⟩
      unfold lk litmus_reader__look.f
      rw [litmus_reader__look.l0, if_pos (by rfl), next_f s hs a ha, hx]
      rfl
    | inr x =>
      obtain ⟨t, e⟩ := x
      left
      obtain ⟨he1, he2, he3, -⟩ := hd.2 t e hx
      have hlk : lk s [] a T p3 p4 p5 p6 p7 = some (.inr (t, [t], (e : Int), (plc s e).1, (plc s e).2, .nil)) := by
        unfold lk litmus_reader__look.f
        rw [litmus_reader__look.l0, if_pos (by rfl), next_f s hs a ha, hx]
        unfold nxP
        simp only [Option.bind_eq_bind, Option.bind_some]
        rw [if_neg (by decide), if_pos (by rw [List.length_nil, List.length_singleton]; decide), litmus_reader__look.l0, if_neg (nt (decide_eq_false (by rw [List.nil_append, List.length_singleton]; omega)))]
        rfl
      refine ⟨t, e, hlk, ?_, ?_⟩
      · rw [hx] at hb hL
        simp only at hb hL
        by_cases hk : t.Kind = 0
        · rw [if_pos hk] at hb hL
          simp only [List.nil_append] at hL hb
          refine ⟨s.size + 1, by omega, he2, .inr (.inr ⟨t, rfl, hk, hb.symm, ?_⟩)⟩
          rw [hL, (nx_end ha hx hk).1, ← hb]
        · rw [if_neg hk] at hb hL
          exact ⟨m, by have := he3.resolve_left hk; omega, he2, .inr (.inl ⟨t, rfl, hk, hb, hL⟩)⟩
      · rw [hx] at hb hL
        simp only at hb hL
        by_cases hk : t.Kind = 0
        · rw [if_pos hk] at hb hL
          simp only [List.nil_append] at hL hb
          have := drop_at hL
          exact ⟨this.1, by rw [this.2.1, (nx_end ha hx hk).1, ← hb]⟩
        · rw [if_neg hk] at hL
          have := drop_at hL
          exact ⟨this.1, this.2.1⟩
  · left
    have := drop_at hL
    exact ⟨t, a, held t, ⟨n, hn, ha, .inr (.inl ⟨t, rfl, hk, hb, hL⟩)⟩, this.1, this.2.1⟩
  · left
    have := drop_at hL
    exact ⟨t, a, held t, ⟨n, hn, ha, .inr (.inr ⟨t, rfl, hk, hb, hL⟩)⟩, this.1, this.2.1⟩
end Go.Proofs.YtkhcbamlhckilaaGreatDoor.K
