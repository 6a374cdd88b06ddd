/- The two readers, function by function. -/
import Derived.Test.YtkhcbamlhckilaaGreatDoorLI
set_option linter.unusedVariables false
set_option linter.unusedSimpArgs false
set_option linter.unusedSectionVars false
namespace Go.Proofs.YtkhcbamlhckilaaGreatDoor.K
open Go

/-- The document's reader at a place, with what is wrong. -/
abbrev Dc (r : weirref07_reader) (i : Int) (F : weirref05_Fault) : weirref07_reader := ⟨r.L, r.Bad, i, F, r.Test, r.Sets, r.Cols, r.Rows, r.Seen, r.Cond⟩
/-- The document has failed with e, or stands at the end where e is wrong. -/
def Gone (r : weirref07_reader) (e : weirref05_Fault) (i : Int) (F : weirref05_Fault) : Prop :=
  ∃ k : Nat, i = (k : Int) ∧ k < r.L.length ∧ (F = e ∨ (F = ⟨0, 0, 0⟩ ∧ r.Bad = e ∧ (gt r.L (k : Int)).Kind = 0))
theorem dn {r : weirref07_reader} {k : Nat} {F : weirref05_Fault} (h : k < r.L.length) : weirref07_reader__next.f (Dc r (k : Int) F) = some (gt r.L (k : Int)) := by
  unfold weirref07_reader__next.f
  rw [if_pos (by simp only; omega)]
section
variable {r : weirref07_reader} {e : weirref05_Fault} (he : e.Code ≠ 0) {i : Int} {F : weirref05_Fault} (hG : Gone r e i F)
include he hG
theorem is_g (x : ByteArray) : weirref07_reader__is.f (Dc r i F) x = some (false, i) := by
  unfold weirref07_reader__is.f
  rcases hG with ⟨k, rfl, hk, rfl | ⟨rfl, hB, h0⟩⟩
  · rw [if_pos (by rw [bne_iff_ne]; exact he)]
  · rw [if_neg (by simp)]
    unfold weirref07_reader__sees.f
    rw [dn hk]
    simp only [Option.bind_eq_bind, Option.bind_some, h0]
    rfl
theorem sees_g (hF : F = ⟨0, 0, 0⟩) (x : ByteArray) : weirref07_reader__sees.f (Dc r i F) x = some false := by
  subst hF
  rcases hG with ⟨k, rfl, hk, rfl | ⟨-, hB, h0⟩⟩
  · exact absurd rfl he
  · unfold weirref07_reader__sees.f
    rw [dn hk]
    simp only [Option.bind_eq_bind, Option.bind_some, h0]
    rfl
theorem wrong_g : weirref07_reader__wrong.f (Dc r i F) = some e := by
  unfold weirref07_reader__wrong.f
  rcases hG with ⟨k, rfl, hk, rfl | ⟨rfl, hB, h0⟩⟩
  · rw [if_pos (by rw [bne_iff_ne]; exact he)]
  · rw [if_neg (by simp), dn hk]
    simp only [Option.bind_eq_bind, Option.bind_some, h0, hB]
    rw [if_pos (by rfl), if_pos (by rw [bne_iff_ne]; exact he)]
theorem must_g (x : ByteArray) : weirref07_reader__must.f (Dc r i F) x = some (i, e) := by
  unfold weirref07_reader__must.f
  rw [is_g he hG]
  simp only [Option.bind_eq_bind, Option.bind_some]
  rw [if_pos (by rfl), wrong_g he hG]
  rfl
theorem name_g : ∃ z, weirref07_reader__name.f (Dc r i F) = some (z, i, e) := by
  have hw := wrong_g he hG
  unfold weirref07_reader__name.f
  rcases hG with ⟨k, rfl, hk, rfl | ⟨rfl, hB, h0⟩⟩
  · rw [if_pos (by rw [bne_iff_ne]; exact he), hw]; exact ⟨_, rfl⟩
  · rw [if_neg (by simp), dn hk]
    simp only [Option.bind_eq_bind, Option.bind_some, h0]
    rw [if_pos (by rfl), hw]; exact ⟨_, rfl⟩
theorem number_g : ∃ z, weirref07_reader__number.f (Dc r i F) = some (z, i, e) := by
  have hw := wrong_g he hG
  unfold weirref07_reader__number.f
  rcases hG with ⟨k, rfl, hk, rfl | ⟨rfl, hB, h0⟩⟩
  · rw [if_pos (by rw [bne_iff_ne]; exact he), hw]; exact ⟨_, rfl⟩
  · rw [if_neg (by simp), dn hk]
    simp only [Option.bind_eq_bind, Option.bind_some, h0]
    rw [if_pos (by rfl), hw]; exact ⟨_, rfl⟩
theorem place_g : ∃ z, weirref07_reader__place.f (Dc r i F) = some (z, i, e) := by
  obtain ⟨k, rfl, hk, -⟩ := id hG
  unfold weirref07_reader__place.f
  rw [must_g he hG]
  simp only [Option.bind_eq_bind, Option.bind_some]
  obtain ⟨z, hz⟩ := name_g he (r := r) (i := (k : Int)) (F := e) ⟨k, rfl, hk, .inl rfl⟩
  refine ⟨z, ?_⟩
  rw [hz]
  simp only [Option.bind_some]
  rw [must_g he (r := r) (i := (k : Int)) (F := e) ⟨k, rfl, hk, .inl rfl⟩]
  rfl
end
/-! ### The program beside the document -/
theorem look_s {s : ByteArray} (hs : s.size ≤ 1048576) {r : weirref07_reader} {bad : Option (Int × Nat)} (hB : r.Bad = flt s bad) {h : List api_Token} {a i : Nat} (hR : Rdr s r.L bad h a i) (T : api_Test) (p3 p4 : List litmus_place) (p5 : List (List litmus_place)) (p6 p7 : List litmus_place) :
    (∃ (t : api_Token) (a' : Nat), lk s h a T p3 p4 p5 p6 p7 = some (.inr (t, [t], (a' : Int), (plc s a').1, (plc s a').2, .nil)) ∧ Rdr s r.L bad [t] a' i ∧ i < r.L.length ∧ gt r.L (i : Int) = t) ∨
    (∃ l c k : Int, k ≠ 0 ∧ lk s h a T p3 p4 p5 p6 p7 = some (.inl (.pos l c k)) ∧ Gone r ⟨l, c, k⟩ (i : Int) ⟨0, 0, 0⟩) := by
  rcases look_p hs hR T p3 p4 p5 p6 p7 with h | ⟨c, p, hb, hc, hl, hd⟩
  · exact .inl h
  · have := drop_at hd
    refine .inr ⟨_, _, c, hc, hl, i, rfl, this.1, .inr ⟨rfl, ?_, ?_⟩⟩
    · rw [hB, hb]; rfl
    · rw [this.2.1, hb]; rfl
/-- A token that is held goes, where it is no end. -/
theorem next_s {s : ByteArray} (hs : s.size ≤ 1048576) {L : List api_Token} {bad : Option (Int × Nat)} {t : api_Token} {a i : Nat} (hR : Rdr s L bad [t] a i) (hk : t.Kind ≠ 0) (T : api_Test) (p3 p4 : List litmus_place) (p5 : List (List litmus_place)) (p6 p7 : List litmus_place) :
    litmus_reader__next.f s (a : Int) (plc s a).1 (plc s a).2 .nil [t] T p3 p4 p5 p6 p7 = some (.inr (t, [], (a : Int), (plc s a).1, (plc s a).2, .nil)) ∧ Rdr s L bad [] a (i + 1) := by
  constructor
  · unfold litmus_reader__next.f litmus_reader__look.f
    rw [litmus_reader__look.l0, if_neg (nt (decide_eq_false (by rw [List.length_singleton]; omega)))]
    simp only [Option.bind_eq_bind, Option.bind_some]
    rw [if_pos (by rw [List.length_singleton]; decide)]
    simp only [Option.bind_some]
    have e : gt [t] (0 : Int) = t := rfl
    rw [e, if_pos (by rw [bne_iff_ne]; exact hk), if_pos (by rw [List.length_singleton]; decide)]
    rfl
  · obtain ⟨n, hn, ha, ⟨h, -⟩ | ⟨t', h, hk', hb, hL⟩ | ⟨t', h, hk', -⟩⟩ := hR
    · cases h
    · cases h
      exact ⟨n, hn, ha, .inl ⟨rfl, hb, (drop_at hL).2.2⟩⟩
    · cases h; exact absurd hk' hk
theorem take_d {r : weirref07_reader} {k : Nat} {F : weirref05_Fault} (h : k < r.L.length) (hl : r.L.length < 9223372036854775807) (hk : (gt r.L (k : Int)).Kind ≠ 0) : weirref07_reader__take.f (Dc r (k : Int) F) = some (gt r.L (k : Int), ((k + 1 : Nat) : Int)) := by
  unfold weirref07_reader__take.f
  rw [dn h]
  simp only [Option.bind_eq_bind, Option.bind_some]
  rw [if_pos (by rw [bne_iff_ne]; exact hk), w1 (by omega)]
  rfl
def seesB (t : api_Token) (x : ByteArray) : Bool := seq t.Text x && (t.Kind == 4 || t.Kind == 1)
theorem sees_d {r : weirref07_reader} {k : Nat} {F : weirref05_Fault} (h : k < r.L.length) (x : ByteArray) : weirref07_reader__sees.f (Dc r (k : Int) F) x = some (seesB (gt r.L (k : Int)) x) := by
  unfold weirref07_reader__sees.f seesB
  rw [dn h]
  simp only [Option.bind_eq_bind, Option.bind_some]
  generalize gt r.L (k : Int) = t
  cases t.Kind == 4 <;> cases t.Kind == 1 <;> cases seq t.Text x <;> rfl
section
variable {s : ByteArray} (hs : s.size ≤ 1048576) {r : weirref07_reader} (hl : r.L.length < 9223372036854775807) {bad : Option (Int × Nat)} (hB : r.Bad = flt s bad)
  {h : List api_Token} {a i : Nat} (hR : Rdr s r.L bad h a i) (T : api_Test) (p3 p4 : List litmus_place) (p5 : List (List litmus_place)) (p6 p7 : List litmus_place)
include hs hl hB hR
theorem sees_s (x : ByteArray) :
    (∃ (t : api_Token) (a' : Nat), litmus_reader__sees.f s (a : Int) (plc s a).1 (plc s a).2 .nil h T p3 p4 p5 p6 p7 x = some (.inr (seesB t x, [t], (a' : Int), (plc s a').1, (plc s a').2, .nil)) ∧ Rdr s r.L bad [t] a' i ∧ i < r.L.length ∧ gt r.L (i : Int) = t) ∨
    (∃ l c k : Int, k ≠ 0 ∧ litmus_reader__sees.f s (a : Int) (plc s a).1 (plc s a).2 .nil h T p3 p4 p5 p6 p7 x = some (.inl (.pos l c k)) ∧ Gone r ⟨l, c, k⟩ (i : Int) ⟨0, 0, 0⟩) := by
  rcases look_s hs hB hR T p3 p4 p5 p6 p7 with ⟨t, a', h1, h2, h3, h4⟩ | ⟨l, c, k, hk, h1, h2⟩
  · refine .inl ⟨t, a', ?_, h2, h3, h4⟩
    unfold litmus_reader__sees.f
    unfold lk at h1
    rw [h1]
    unfold seesB
    simp only [Option.bind_eq_bind, Option.bind_some]
    cases t.Kind == 4 <;> cases t.Kind == 1 <;> cases seq t.Text x <;> rfl
  · refine .inr ⟨l, c, k, hk, ?_, h2⟩
    unfold litmus_reader__sees.f
    unfold lk at h1
    rw [h1]; rfl
theorem is_s (x : ByteArray) :
    (∃ (b : Bool) (h' : List api_Token) (a' i' : Nat), litmus_reader__is.f s (a : Int) (plc s a).1 (plc s a).2 .nil h T p3 p4 p5 p6 p7 x = some (.inr (b, h', (a' : Int), (plc s a').1, (plc s a').2, .nil)) ∧ Rdr s r.L bad h' a' i' ∧ weirref07_reader__is.f (Dc r (i : Int) ⟨0, 0, 0⟩) x = some (b, (i' : Int))) ∨
    (∃ l c k : Int, k ≠ 0 ∧ litmus_reader__is.f s (a : Int) (plc s a).1 (plc s a).2 .nil h T p3 p4 p5 p6 p7 x = some (.inl (.pos l c k)) ∧ Gone r ⟨l, c, k⟩ (i : Int) ⟨0, 0, 0⟩) := by
  rcases sees_s hs hl hB hR T p3 p4 p5 p6 p7 x with ⟨t, a', h1, h2, h3, h4⟩ | ⟨l, c, k, hk, h1, h2⟩
  · cases hb : seesB t x
    · refine .inl ⟨false, [t], a', i, ?_, h2, ?_⟩
      · unfold litmus_reader__is.f; rw [h1, hb]; rfl
      · unfold weirref07_reader__is.f; rw [if_neg (by simp), sees_d h3 x, h4, hb]; rfl
    · have hk : t.Kind ≠ 0 := by
        intro h0
        unfold seesB at hb
        rw [h0] at hb
        simp at hb
      obtain ⟨n1, n2⟩ := next_s hs h2 hk T p3 p4 p5 p6 p7
      refine .inl ⟨true, [], a', i + 1, ?_, n2, ?_⟩
      · unfold litmus_reader__is.f
        rw [h1, hb]
        simp only [Option.bind_eq_bind, Option.bind_some, if_true]
        rw [n1]; rfl
      · unfold weirref07_reader__is.f
        rw [if_neg (by simp), sees_d h3 x, h4, hb]
        simp only [Option.bind_eq_bind, Option.bind_some]
        rw [if_neg (by simp), take_d h3 hl (by rw [h4]; exact hk)]; rfl
  · exact .inr ⟨l, c, k, hk, by unfold litmus_reader__is.f; rw [h1]; rfl, h2⟩
/-- Wrong syntax: the program's and the document's. -/
theorem syn_s : i < r.L.length ∧ ∃ l c k : Int, k ≠ 0 ∧ litmus_reader__syntax.f s (a : Int) (plc s a).1 (plc s a).2 .nil h T p3 p4 p5 p6 p7 = some (.inl (.pos l c k)) ∧ weirref07_reader__wrong.f (Dc r (i : Int) ⟨0, 0, 0⟩) = some ⟨l, c, k⟩ := by
  unfold litmus_reader__syntax.f
  rcases look_s hs hB hR T p3 p4 p5 p6 p7 with ⟨t, a', h1, h2, h3, h4⟩ | ⟨l, c, k, hk, h1, h2⟩
  · refine ⟨h3, t.Line, t.Col, 70, by decide, by unfold lk at h1; rw [h1]; rfl, ?_⟩
    unfold weirref07_reader__wrong.f
    rw [if_neg (by simp), dn h3, h4]
    simp only [Option.bind_eq_bind, Option.bind_some]
    by_cases h0 : t.Kind = 0
    · rw [if_pos (by rw [beq_iff_eq]; exact h0)]
      obtain ⟨n, hn, ha, ⟨h', -⟩ | ⟨t', h', hk', -⟩ | ⟨t', h', hk', hb, -⟩⟩ := h2
      · cases h'
      · cases h'; exact absurd h0 hk'
      · have : r.Bad.Code = 0 := by rw [hB, hb]; rfl
        rw [if_neg (by rw [bne_iff_ne]; simp [this])]
    · rw [if_neg (by rw [beq_iff_eq]; exact h0)]
  · obtain ⟨j, hj, hj2, -⟩ := id h2
    obtain rfl : i = j := by omega
    refine ⟨hj2, l, c, k, hk, by unfold lk at h1; rw [h1]; rfl, wrong_g (e := ⟨l, c, k⟩) hk h2⟩
theorem must_s (x : ByteArray) :
    (∃ (h' : List api_Token) (a' i' : Nat), litmus_reader__must.f s (a : Int) (plc s a).1 (plc s a).2 .nil h T p3 p4 p5 p6 p7 x = some (.inr (h', (a' : Int), (plc s a').1, (plc s a').2, .nil)) ∧ Rdr s r.L bad h' a' i' ∧ weirref07_reader__must.f (Dc r (i : Int) ⟨0, 0, 0⟩) x = some ((i' : Int), ⟨0, 0, 0⟩)) ∨
    (∃ (l c k : Int) (i' : Nat), k ≠ 0 ∧ i' < r.L.length ∧ litmus_reader__must.f s (a : Int) (plc s a).1 (plc s a).2 .nil h T p3 p4 p5 p6 p7 x = some (.inl (.pos l c k)) ∧ weirref07_reader__must.f (Dc r (i : Int) ⟨0, 0, 0⟩) x = some ((i' : Int), ⟨l, c, k⟩)) := by
  rcases is_s hs hl hB hR T p3 p4 p5 p6 p7 x with ⟨b, h', a', i', h1, h2, h3⟩ | ⟨l, c, k, hk, h1, h2⟩
  · cases b
    · obtain ⟨hi0, l, c, k, hk0, s1, s2⟩ := syn_s hs hl hB h2 T p3 p4 p5 p6 p7
      refine .inr ⟨l, c, k, i', hk0, hi0, ?_, ?_⟩
      · unfold litmus_reader__must.f
        rw [h1]
        simp only [Option.bind_eq_bind, Option.bind_some]
        rw [if_pos (by rfl), s1]; rfl
      · unfold weirref07_reader__must.f
        rw [h3]
        simp only [Option.bind_eq_bind, Option.bind_some]
        rw [if_pos (by rfl)]
        have s2' : weirref07_reader__wrong.f (Dc r (i' : Int) ⟨0, 0, 0⟩) = _ := s2
        rw [s2']; rfl
    · refine .inl ⟨h', a', i', ?_, h2, ?_⟩
      · unfold litmus_reader__must.f; rw [h1]; rfl
      · unfold weirref07_reader__must.f; rw [h3]; rfl
  · obtain ⟨j, hj, hj2, -⟩ := id h2
    obtain rfl : i = j := by omega
    exact .inr ⟨l, c, k, i, hk, hj2, by unfold litmus_reader__must.f; rw [h1]; rfl, must_g (e := ⟨l, c, k⟩) hk h2 x⟩
theorem name_s :
    (∃ (v : ByteArray) (h' : List api_Token) (a' i' : Nat), litmus_reader__name.f s (a : Int) (plc s a).1 (plc s a).2 .nil h T p3 p4 p5 p6 p7 = some (.inr (v, h', (a' : Int), (plc s a').1, (plc s a').2, .nil)) ∧ Rdr s r.L bad h' a' i' ∧ weirref07_reader__name.f (Dc r (i : Int) ⟨0, 0, 0⟩) = some (v, (i' : Int), ⟨0, 0, 0⟩)) ∨
    (∃ (l c k : Int) (z : ByteArray) (i' : Nat), k ≠ 0 ∧ i' < r.L.length ∧ litmus_reader__name.f s (a : Int) (plc s a).1 (plc s a).2 .nil h T p3 p4 p5 p6 p7 = some (.inl (.pos l c k)) ∧ weirref07_reader__name.f (Dc r (i : Int) ⟨0, 0, 0⟩) = some (z, (i' : Int), ⟨l, c, k⟩)) := by
  rcases look_s hs hB hR T p3 p4 p5 p6 p7 with ⟨t, a', h1, h2, h3, h4⟩ | ⟨l, c, k, hk, h1, h2⟩
  · unfold lk at h1
    by_cases hk : t.Kind = 1
    · obtain ⟨n1, n2⟩ := next_s hs h2 (by rw [hk]; decide) T p3 p4 p5 p6 p7
      refine .inl ⟨t.Text, [], a', i + 1, ?_, n2, ?_⟩
      · unfold litmus_reader__name.f
        rw [h1]
        simp only [Option.bind_eq_bind, Option.bind_some]
        rw [if_neg (by rw [hk]; decide), n1]; rfl
      · unfold weirref07_reader__name.f
        rw [if_neg (by simp), dn h3, h4]
        simp only [Option.bind_eq_bind, Option.bind_some]
        rw [if_neg (by rw [hk]; decide), take_d h3 hl (by rw [h4, hk]; decide), h4]; rfl
    · obtain ⟨hi0, l, c, k, hk0, s1, s2⟩ := syn_s hs hl hB h2 T p3 p4 p5 p6 p7
      refine .inr ⟨l, c, k, (⟨#[]⟩ : ByteArray), i, hk0, hi0, ?_, ?_⟩
      · unfold litmus_reader__name.f
        rw [h1]
        simp only [Option.bind_eq_bind, Option.bind_some]
        rw [if_pos (by rw [bne_iff_ne]; exact hk), s1]; rfl
      · unfold weirref07_reader__name.f
        rw [if_neg (by simp), dn h3, h4]
        simp only [Option.bind_eq_bind, Option.bind_some]
        rw [if_pos (by rw [bne_iff_ne]; exact hk), s2]; rfl
  · unfold lk at h1
    obtain ⟨z, hz⟩ := name_g (e := ⟨l, c, k⟩) hk h2
    obtain ⟨j, hj, hj2, -⟩ := id h2
    obtain rfl : i = j := by omega
    exact .inr ⟨l, c, k, z, i, hk, hj2, by unfold litmus_reader__name.f; rw [h1]; rfl, hz⟩
theorem number_s :
    (∃ (v : Int) (h' : List api_Token) (a' i' : Nat), litmus_reader__number.f s (a : Int) (plc s a).1 (plc s a).2 .nil h T p3 p4 p5 p6 p7 = some (.inr (v, h', (a' : Int), (plc s a').1, (plc s a').2, .nil)) ∧ Rdr s r.L bad h' a' i' ∧ weirref07_reader__number.f (Dc r (i : Int) ⟨0, 0, 0⟩) = some (v, (i' : Int), ⟨0, 0, 0⟩)) ∨
    (∃ (l c k : Int) (z : Int) (i' : Nat), k ≠ 0 ∧ i' < r.L.length ∧ litmus_reader__number.f s (a : Int) (plc s a).1 (plc s a).2 .nil h T p3 p4 p5 p6 p7 = some (.inl (.pos l c k)) ∧ weirref07_reader__number.f (Dc r (i : Int) ⟨0, 0, 0⟩) = some (z, (i' : Int), ⟨l, c, k⟩)) := by
  rcases look_s hs hB hR T p3 p4 p5 p6 p7 with ⟨t, a', h1, h2, h3, h4⟩ | ⟨l, c, k, hk, h1, h2⟩
  · unfold lk at h1
    by_cases hk : t.Kind = 2
    · obtain ⟨n1, n2⟩ := next_s hs h2 (by rw [hk]; decide) T p3 p4 p5 p6 p7
      refine .inl ⟨t.Value, [], a', i + 1, ?_, n2, ?_⟩
      · unfold litmus_reader__number.f
        rw [h1]
        simp only [Option.bind_eq_bind, Option.bind_some]
        rw [if_neg (by rw [hk]; decide), n1]; rfl
      · unfold weirref07_reader__number.f
        rw [if_neg (by simp), dn h3, h4]
        simp only [Option.bind_eq_bind, Option.bind_some]
        rw [if_neg (by rw [hk]; decide), take_d h3 hl (by rw [h4, hk]; decide), h4]; rfl
    · obtain ⟨hi0, l, c, k, hk0, s1, s2⟩ := syn_s hs hl hB h2 T p3 p4 p5 p6 p7
      refine .inr ⟨l, c, k, 0, i, hk0, hi0, ?_, ?_⟩
      · unfold litmus_reader__number.f
        rw [h1]
        simp only [Option.bind_eq_bind, Option.bind_some]
        rw [if_pos (by rw [bne_iff_ne]; exact hk), s1]; rfl
      · unfold weirref07_reader__number.f
        rw [if_neg (by simp), dn h3, h4]
        simp only [Option.bind_eq_bind, Option.bind_some]
        rw [if_pos (by rw [bne_iff_ne]; exact hk), s2]; rfl
  · unfold lk at h1
    obtain ⟨z, hz⟩ := number_g (e := ⟨l, c, k⟩) hk h2
    obtain ⟨j, hj, hj2, -⟩ := id h2
    obtain rfl : i = j := by omega
    exact .inr ⟨l, c, k, z, i, hk, hj2, by unfold litmus_reader__number.f; rw [h1]; rfl, hz⟩
theorem place_s :
    (∃ (v : ByteArray) (h' : List api_Token) (a' i' : Nat), litmus_reader__bracketed.f s (a : Int) (plc s a).1 (plc s a).2 .nil h T p3 p4 p5 p6 p7 = some (.inr (v, h', (a' : Int), (plc s a').1, (plc s a').2, .nil)) ∧ Rdr s r.L bad h' a' i' ∧ weirref07_reader__place.f (Dc r (i : Int) ⟨0, 0, 0⟩) = some (v, (i' : Int), ⟨0, 0, 0⟩)) ∨
    (∃ (l c k : Int) (z : ByteArray) (i' : Nat), k ≠ 0 ∧ i' < r.L.length ∧ litmus_reader__bracketed.f s (a : Int) (plc s a).1 (plc s a).2 .nil h T p3 p4 p5 p6 p7 = some (.inl (.pos l c k)) ∧ weirref07_reader__place.f (Dc r (i : Int) ⟨0, 0, 0⟩) = some (z, (i' : Int), ⟨l, c, k⟩)) := by
  unfold litmus_reader__bracketed.f weirref07_reader__place.f
  rcases must_s hs hl hB hR T p3 p4 p5 p6 p7 (⟨#[91]⟩ : ByteArray) with ⟨h1, a1, i1, m1, m2, m3⟩ | ⟨l, c, k, i1, hk, hi, m1, m3⟩
  · rcases name_s hs hl hB m2 T p3 p4 p5 p6 p7 with ⟨v, h2, a2, i2, n1, n2, n3⟩ | ⟨l, c, k, z, i2, hk, hi, n1, n3⟩
    · rcases must_s hs hl hB n2 T p3 p4 p5 p6 p7 (⟨#[93]⟩ : ByteArray) with ⟨h3, a3, i3, o1, o2, o3⟩ | ⟨l, c, k, i3, hk, hi, o1, o3⟩
      · refine .inl ⟨v, h3, a3, i3, ?_, o2, ?_⟩
        · rw [m1]; simp only [Option.bind_eq_bind, Option.bind_some]; rw [n1]; simp only [Option.bind_some]; rw [o1]; rfl
        · rw [m3]; simp only [Option.bind_eq_bind, Option.bind_some]; rw [n3]; simp only [Option.bind_some]; rw [o3]; rfl
      · refine .inr ⟨l, c, k, v, i3, hk, hi, ?_, ?_⟩
        · rw [m1]; simp only [Option.bind_eq_bind, Option.bind_some]; rw [n1]; simp only [Option.bind_some]; rw [o1]; rfl
        · rw [m3]; simp only [Option.bind_eq_bind, Option.bind_some]; rw [n3]; simp only [Option.bind_some]; rw [o3]; rfl
    · refine .inr ⟨l, c, k, z, i2, hk, hi, ?_, ?_⟩
      · rw [m1]; simp only [Option.bind_eq_bind, Option.bind_some]; rw [n1]; rfl
      · rw [m3]; simp only [Option.bind_eq_bind, Option.bind_some]; rw [n3]; simp only [Option.bind_some]
        rw [must_g (r := r) (e := ⟨l, c, k⟩) (i := (i2 : Int)) (F := ⟨l, c, k⟩) hk ⟨i2, rfl, hi, .inl rfl⟩]; rfl
  · obtain ⟨z, hz⟩ := name_g (r := r) (e := ⟨l, c, k⟩) (i := (i1 : Int)) (F := ⟨l, c, k⟩) hk ⟨i1, rfl, hi, .inl rfl⟩
    refine .inr ⟨l, c, k, z, i1, hk, hi, ?_, ?_⟩
    · rw [m1]; rfl
    · rw [m3]; simp only [Option.bind_eq_bind, Option.bind_some]; rw [hz]; simp only [Option.bind_some]
      rw [must_g (r := r) (e := ⟨l, c, k⟩) (i := (i1 : Int)) (F := ⟨l, c, k⟩) hk ⟨i1, rfl, hi, .inl rfl⟩]; rfl
end
end Go.Proofs.YtkhcbamlhckilaaGreatDoor.K
