/- Conditions: the program's reading against the document's. -/
import Derived.Test.YtboejepakdnbgaaGreatDoorZC
set_option linter.unusedVariables false
set_option linter.unusedSimpArgs false
set_option maxRecDepth 100000
namespace Go.Proofs.YtboejepakdnbgaaGreatDoor.K.C
open Go

abbrev PF := cond_reader → Option (Sum PErr (Int × Int × api_Token × Int × (List api_Node)))
abbrev QF := weirref06_reader → Option (Int × Int × api_Token × Int × (List api_Node) × weirref05_Fault)
def SimF (l : Toks) (n : Int) (p : PF) (q : QF) : Prop := ∀ (a : Nat) (la : api_Token) (d : Int) (c : Nods), a ≤ l.length → 0 ≤ d → d ≤ 64 → 64 - d < n → c.length ≤ 1024 →
  (∃ i la2 c2, ∃ a2 : Nat, p ⟨l, (a : Int), la, d, c⟩ = some (.inr (i, (a2 : Int), la2, d, c2)) ∧ q ⟨l, (a : Int), la, d, c, F0⟩ = some (i, (a2 : Int), la2, d, c2, F0) ∧ a < a2 ∧ a2 ≤ M l ∧ c2.length ≤ 1024) ∨
  (∃ x y z, z ≠ 0 ∧ p ⟨l, (a : Int), la, d, c⟩ = some (.inl (.pos x y z)) ∧ ∃ i la2 d2 c2, ∃ a2 : Nat, a2 ≤ l.length ∧ q ⟨l, (a : Int), la, d, c, F0⟩ = some (i, (a2 : Int), la2, d2, c2, ⟨x, y, z⟩))
def BadF (l : Toks) (q : QF) : Prop := ∀ (a : Nat) (la : api_Token) (d : Int) (c : Nods) (F : weirref05_Fault), a ≤ l.length → F.Code ≠ 0 → q ⟨l, (a : Int), la, d, c, F⟩ = some (0, (a : Int), la, d, c, F)

theorem and_lbad {l : Toks} (q : QF) (q0 : weirref06_reader) (hq0 : q0.L = l) (i : Int) (a : Nat) (la : api_Token) (d : Int) (c : Nods) (F : weirref05_Fault) (hF : F.Code ≠ 0) : weirref06_reader__and_2.l0 q q0 i (a : Int) la d c F = some (i, (a : Int), la, d, c, F) := by
  rw [weirref06_reader__and_2.l0, hq0, is_bad hF]; rfl
theorem and_loop {l : Toks} (hl : l.length ≤ 2199023255552) {n : Int} {p : PF} {q : QF} (hs : SimF l n (p) (q)) {r0 : cond_reader} (hr0 : r0.l = l) {q0 : weirref06_reader} (hq0 : q0.L = l) : ∀ (m a : Nat) (i : Int) (la : api_Token) (d : Int) (c : Nods), M l - a ≤ m → a ≤ M l → 0 ≤ d → d ≤ 64 → 64 - d < n → c.length ≤ 1024 →
    (∃ i2 la2 c2, ∃ a2 : Nat, cond_reader__chain_5.l0 p r0 (⟨#[47, 92]⟩ : ByteArray) 4 i (a : Int) la d c = some (.inl (i2, (a2 : Int), la2, d, c2)) ∧ weirref06_reader__and_2.l0 q q0 i (a : Int) la d c F0 = some (i2, (a2 : Int), la2, d, c2, F0) ∧ a ≤ a2 ∧ a2 ≤ M l ∧ c2.length ≤ 1024) ∨
    (∃ x y z, z ≠ 0 ∧ cond_reader__chain_5.l0 p r0 (⟨#[47, 92]⟩ : ByteArray) 4 i (a : Int) la d c = some (.inr (.inl (.pos x y z))) ∧ ∃ i2 la2 d2 c2, ∃ a2 : Nat, a2 ≤ l.length ∧ weirref06_reader__and_2.l0 q q0 i (a : Int) la d c F0 = some (i2, (a2 : Int), la2, d2, c2, ⟨x, y, z⟩)) := by
  have hM := M_le l
  intro m
  induction m with
  | zero =>
    intro a i la d c hm ha h0 h1 h2 hc
    have ha' : a ≤ l.length := Nat.le_trans ha hM
    left
    rw [cond_reader__chain_5.l0, weirref06_reader__and_2.l0, hr0, hq0, show ((0 : Int)) = ((0 : Nat) : Int) from rfl, sees_p 0 4 _ hl ha' (by decide), is_d 0 4 _ hl ha' (by decide), Nat.add_zero]
    have hf : sg l a 4 (⟨#[47, 92]⟩ : ByteArray) = false := by
      cases h : sg l a 4 (⟨#[47, 92]⟩ : ByteArray)
      · rfl
      · exact absurd (sg_M h (by decide)) (by omega)
    rw [hf]
    exact ⟨_, _, _, a, rfl, rfl, Nat.le_refl _, ha, hc⟩
  | succ m ih =>
    intro a i la d c hm ha h0 h1 h2 hc
    have ha' : a ≤ l.length := Nat.le_trans ha hM
    rw [cond_reader__chain_5.l0, weirref06_reader__and_2.l0, hr0, hq0, show ((0 : Int)) = ((0 : Nat) : Int) from rfl, sees_p 0 4 _ hl ha' (by decide), is_d 0 4 _ hl ha' (by decide), Nat.add_zero, show (((0 : Nat)) : Int) = 0 from rfl]
    simp only [Option.bind_eq_bind, Option.bind_some]
    cases hg : sg l a 4 (⟨#[47, 92]⟩ : ByteArray)
    · left
      exact ⟨_, _, _, a, rfl, rfl, Nat.le_refl _, ha, hc⟩
    · have hlt : a < l.length := by
        unfold sg at hg
        simp only [Bool.and_eq_true, decide_eq_true_eq] at hg
        exact hg.1
      simp only [if_true]
      rw [take_p hl hlt, take_d hl hlt]
      simp only [Option.bind_some]
      rcases hs (a + 1) (gt l (a : Int)) d c (by omega) h0 h1 h2 hc with ⟨b, la2, c2, a2, p1, q1, g1, g2, g3⟩ | ⟨x, y, z, hz, p1, b, la2, d2, c2, a2, g2, q1⟩
      · rw [p1, q1]
        simp only [Option.bind_some]
        rcases node_sim (l := l) (a := a2) (la := la2) (d := d) (⟨4, i, b, (⟨0, (⟨#[]⟩ : ByteArray)⟩ : api_Ref), 0⟩ : api_Node) g3 with ⟨j, c3, hc3, p3, d3⟩ | ⟨x, y, p3, d3⟩
        · rw [p3, d3]
          simp only [Option.bind_some]
          rcases ih a2 j la2 d c3 (by omega) g2 h0 h1 h2 hc3 with ⟨i4, la4, c4, a4, p4, q4, r1, r2, r3⟩ | h
          · left
            exact ⟨i4, la4, c4, a4, p4, q4, by omega, r2, r3⟩
          · right
            exact h
        · right
          rw [p3, d3]
          simp only [Option.bind_some]
          rw [and_lbad q q0 hq0 _ a2 la2 d c2 ⟨x, y, 1⟩ (by show (1 : Int) ≠ 0; decide)]
          exact ⟨x, y, 1, by decide, rfl, _, _, _, _, a2, Nat.le_trans g2 hM, rfl⟩
      · right
        rw [p1, q1]
        simp only [Option.bind_some]
        rw [node_bad _ (show (⟨x, y, z⟩ : weirref05_Fault).Code ≠ 0 from hz)]
        simp only [Option.bind_some]
        rw [and_lbad q q0 hq0 _ a2 la2 d2 c2 ⟨x, y, z⟩ hz]
        exact ⟨x, y, z, hz, rfl, _, _, _, _, a2, g2, rfl⟩
theorem and_sim {l : Toks} (hl : l.length ≤ 2199023255552) {n : Int} {p : PF} {q : QF} (hs : SimF l n (p) (q)) : SimF l n (cond_reader__and_2.f p) (weirref06_reader__and_2.f q) := by
  have hM := M_le l
  intro a la d c ha h0 h1 h2 hc
  unfold cond_reader__and_2.f cond_reader__chain_5.f weirref06_reader__and_2.f
  dsimp only
  rcases hs a la d c ha h0 h1 h2 hc with ⟨b, la2, c2, a2, p1, q1, g1, g2, g3⟩ | ⟨x, y, z, hz, p1, b, la2, d2, c2, a2, g2, q1⟩
  · rw [p1, q1]
    simp only [Option.bind_eq_bind, Option.bind_some]
    rcases and_loop hl hs (r0 := ⟨l, (a : Int), la, d, c⟩) rfl (q0 := ⟨l, (a : Int), la, d, c, F0⟩) rfl l.length a2 b la2 d c2 (by omega) g2 h0 h1 h2 g3 with ⟨i4, la4, c4, a4, p4, q4, r1, r2, r3⟩ | ⟨x, y, z, hz, p4, i4, la4, d4, c4, a4, r2, q4⟩
    · left
      rw [p4, q4]
      exact ⟨_, _, _, a4, rfl, rfl, by omega, r2, r3⟩
    · right
      rw [p4, q4]
      exact ⟨x, y, z, hz, rfl, _, _, _, _, a4, r2, rfl⟩
  · right
    rw [p1, q1]
    simp only [Option.bind_eq_bind, Option.bind_some]
    rw [and_lbad q _ rfl _ a2 la2 d2 c2 ⟨x, y, z⟩ hz]
    exact ⟨x, y, z, hz, rfl, _, _, _, _, a2, g2, rfl⟩
theorem and_bad {l : Toks} {q : QF} (hb : BadF l (q)) : BadF l (weirref06_reader__and_2.f q) := by
  intro a la d c F ha hF
  unfold weirref06_reader__and_2.f
  dsimp only
  rw [hb a la d c F ha hF]
  simp only [Option.bind_eq_bind, Option.bind_some]
  rw [and_lbad q _ rfl _ a la d c F hF]; rfl

theorem or_lbad {l : Toks} (q : QF) (q0 : weirref06_reader) (hq0 : q0.L = l) (i : Int) (a : Nat) (la : api_Token) (d : Int) (c : Nods) (F : weirref05_Fault) (hF : F.Code ≠ 0) : weirref06_reader__or_2.l0 q q0 i (a : Int) la d c F = some (i, (a : Int), la, d, c, F) := by
  rw [weirref06_reader__or_2.l0, hq0, is_bad hF]; rfl
theorem or_loop {l : Toks} (hl : l.length ≤ 2199023255552) {n : Int} {p : PF} {q : QF} (hs : SimF l n (cond_reader__and_2.f p) (weirref06_reader__and_2.f q)) {r0 : cond_reader} (hr0 : r0.l = l) {q0 : weirref06_reader} (hq0 : q0.L = l) : ∀ (m a : Nat) (i : Int) (la : api_Token) (d : Int) (c : Nods), M l - a ≤ m → a ≤ M l → 0 ≤ d → d ≤ 64 → 64 - d < n → c.length ≤ 1024 →
    (∃ i2 la2 c2, ∃ a2 : Nat, cond_reader__chain_4.l0 p r0 (⟨#[92, 47]⟩ : ByteArray) 5 i (a : Int) la d c = some (.inl (i2, (a2 : Int), la2, d, c2)) ∧ weirref06_reader__or_2.l0 q q0 i (a : Int) la d c F0 = some (i2, (a2 : Int), la2, d, c2, F0) ∧ a ≤ a2 ∧ a2 ≤ M l ∧ c2.length ≤ 1024) ∨
    (∃ x y z, z ≠ 0 ∧ cond_reader__chain_4.l0 p r0 (⟨#[92, 47]⟩ : ByteArray) 5 i (a : Int) la d c = some (.inr (.inl (.pos x y z))) ∧ ∃ i2 la2 d2 c2, ∃ a2 : Nat, a2 ≤ l.length ∧ weirref06_reader__or_2.l0 q q0 i (a : Int) la d c F0 = some (i2, (a2 : Int), la2, d2, c2, ⟨x, y, z⟩)) := by
  have hM := M_le l
  intro m
  induction m with
  | zero =>
    intro a i la d c hm ha h0 h1 h2 hc
    have ha' : a ≤ l.length := Nat.le_trans ha hM
    left
    rw [cond_reader__chain_4.l0, weirref06_reader__or_2.l0, hr0, hq0, show ((0 : Int)) = ((0 : Nat) : Int) from rfl, sees_p 0 4 _ hl ha' (by decide), is_d 0 4 _ hl ha' (by decide), Nat.add_zero]
    have hf : sg l a 4 (⟨#[92, 47]⟩ : ByteArray) = false := by
      cases h : sg l a 4 (⟨#[92, 47]⟩ : ByteArray)
      · rfl
      · exact absurd (sg_M h (by decide)) (by omega)
    rw [hf]
    exact ⟨_, _, _, a, rfl, rfl, Nat.le_refl _, ha, hc⟩
  | succ m ih =>
    intro a i la d c hm ha h0 h1 h2 hc
    have ha' : a ≤ l.length := Nat.le_trans ha hM
    rw [cond_reader__chain_4.l0, weirref06_reader__or_2.l0, hr0, hq0, show ((0 : Int)) = ((0 : Nat) : Int) from rfl, sees_p 0 4 _ hl ha' (by decide), is_d 0 4 _ hl ha' (by decide), Nat.add_zero, show (((0 : Nat)) : Int) = 0 from rfl]
    simp only [Option.bind_eq_bind, Option.bind_some]
    cases hg : sg l a 4 (⟨#[92, 47]⟩ : ByteArray)
    · left
      exact ⟨_, _, _, a, rfl, rfl, Nat.le_refl _, ha, hc⟩
    · have hlt : a < l.length := by
        unfold sg at hg
        simp only [Bool.and_eq_true, decide_eq_true_eq] at hg
        exact hg.1
      simp only [if_true]
      rw [take_p hl hlt, take_d hl hlt]
      simp only [Option.bind_some]
      rcases hs (a + 1) (gt l (a : Int)) d c (by omega) h0 h1 h2 hc with ⟨b, la2, c2, a2, p1, q1, g1, g2, g3⟩ | ⟨x, y, z, hz, p1, b, la2, d2, c2, a2, g2, q1⟩
      · rw [p1, q1]
        simp only [Option.bind_some]
        rcases node_sim (l := l) (a := a2) (la := la2) (d := d) (⟨5, i, b, (⟨0, (⟨#[]⟩ : ByteArray)⟩ : api_Ref), 0⟩ : api_Node) g3 with ⟨j, c3, hc3, p3, d3⟩ | ⟨x, y, p3, d3⟩
        · rw [p3, d3]
          simp only [Option.bind_some]
          rcases ih a2 j la2 d c3 (by omega) g2 h0 h1 h2 hc3 with ⟨i4, la4, c4, a4, p4, q4, r1, r2, r3⟩ | h
          · left
            exact ⟨i4, la4, c4, a4, p4, q4, by omega, r2, r3⟩
          · right
            exact h
        · right
          rw [p3, d3]
          simp only [Option.bind_some]
          rw [or_lbad q q0 hq0 _ a2 la2 d c2 ⟨x, y, 1⟩ (by show (1 : Int) ≠ 0; decide)]
          exact ⟨x, y, 1, by decide, rfl, _, _, _, _, a2, Nat.le_trans g2 hM, rfl⟩
      · right
        rw [p1, q1]
        simp only [Option.bind_some]
        rw [node_bad _ (show (⟨x, y, z⟩ : weirref05_Fault).Code ≠ 0 from hz)]
        simp only [Option.bind_some]
        rw [or_lbad q q0 hq0 _ a2 la2 d2 c2 ⟨x, y, z⟩ hz]
        exact ⟨x, y, z, hz, rfl, _, _, _, _, a2, g2, rfl⟩
theorem or_sim {l : Toks} (hl : l.length ≤ 2199023255552) {n : Int} {p : PF} {q : QF} (hs : SimF l n (cond_reader__and_2.f p) (weirref06_reader__and_2.f q)) : SimF l n (cond_reader__cond_2.f p) (weirref06_reader__or_2.f q) := by
  have hM := M_le l
  intro a la d c ha h0 h1 h2 hc
  unfold cond_reader__cond_2.f cond_reader__chain_4.f weirref06_reader__or_2.f
  dsimp only
  rcases hs a la d c ha h0 h1 h2 hc with ⟨b, la2, c2, a2, p1, q1, g1, g2, g3⟩ | ⟨x, y, z, hz, p1, b, la2, d2, c2, a2, g2, q1⟩
  · rw [p1, q1]
    simp only [Option.bind_eq_bind, Option.bind_some]
    rcases or_loop hl hs (r0 := ⟨l, (a : Int), la, d, c⟩) rfl (q0 := ⟨l, (a : Int), la, d, c, F0⟩) rfl l.length a2 b la2 d c2 (by omega) g2 h0 h1 h2 g3 with ⟨i4, la4, c4, a4, p4, q4, r1, r2, r3⟩ | ⟨x, y, z, hz, p4, i4, la4, d4, c4, a4, r2, q4⟩
    · left
      rw [p4, q4]
      exact ⟨_, _, _, a4, rfl, rfl, by omega, r2, r3⟩
    · right
      rw [p4, q4]
      exact ⟨x, y, z, hz, rfl, _, _, _, _, a4, r2, rfl⟩
  · right
    rw [p1, q1]
    simp only [Option.bind_eq_bind, Option.bind_some]
    rw [or_lbad q _ rfl _ a2 la2 d2 c2 ⟨x, y, z⟩ hz]
    exact ⟨x, y, z, hz, rfl, _, _, _, _, a2, g2, rfl⟩
theorem or_bad {l : Toks} {q : QF} (hb : BadF l (weirref06_reader__and_2.f q)) : BadF l (weirref06_reader__or_2.f q) := by
  intro a la d c F ha hF
  unfold weirref06_reader__or_2.f
  dsimp only
  rw [hb a la d c F ha hF]
  simp only [Option.bind_eq_bind, Option.bind_some]
  rw [or_lbad q _ rfl _ a la d c F hF]; rfl

theorem not_bad {l : Toks} {q : QF} : BadF l (weirref06_reader__not.body q) := by
  intro a la d c F ha hF
  unfold weirref06_reader__not.body
  dsimp only
  rw [bad_d, (bne_iff_ne.2 hF : (F.Code != 0) = true)]; rfl
theorem not_sim {l : Toks} (hl : l.length ≤ 2199023255552) {n : Int} {p : PF} {q : QF} (hs : SimF l n p q) (hb : BadF l q) : SimF l (n + 1) (cond_reader__not.body p) (weirref06_reader__not.body q) := by
  have ho : SimF l n (cond_reader__cond_2.f p) (weirref06_reader__or_2.f q) := or_sim hl (and_sim hl hs)
  have hob : BadF l (weirref06_reader__or_2.f q) := or_bad (and_bad hb)
  have hM := M_le l
  intro a la d c ha h0 h1 h2 hc
  have h2' : 64 - d ≤ n := by omega
  unfold cond_reader__not.body weirref06_reader__not.body
  dsimp only
  have e0 : ((0 : Int)) = ((0 : Nat) : Int) := rfl
  have e1 : ((1 : Int)) = ((1 : Nat) : Int) := rfl
  have s0 := fun s k => sees_p (l := l) (a := a) (la := la) (d := d) (c := c) 0 k s hl ha (by decide)
  have s1 := fun s k => sees_p (l := l) (a := a) (la := la) (d := d) (c := c) 1 k s hl ha (by decide)
  have i0 := fun s k => is_d (l := l) (a := a) (la := la) (d := d) (c := c) 0 k s hl ha (by decide)
  have i1 := fun s k => is_d (l := l) (a := a) (la := la) (d := d) (c := c) 1 k s hl ha (by decide)
  simp only [Nat.add_zero] at s0 i0
  rw [show (((0 : Nat)) : Int) = 0 from rfl] at s0 i0
  rw [show (((1 : Nat)) : Int) = 1 from rfl] at s1 i1
  rw [bad_d]
  simp only [Option.bind_eq_bind, Option.bind_some, bne_self_eq_false, Bool.false_eq_true, if_false, s0, s1, i0, i1]
  have lt_of : ∀ k s, sg l a k s = true → a < l.length := by
    intro k s hg
    unfold sg at hg
    simp only [Bool.and_eq_true, decide_eq_true_eq] at hg
    exact hg.1
  cases hn : sg l a 4 (⟨#[126]⟩ : ByteArray)
  · simp only [Bool.false_eq_true, if_false]
    cases hp : sg l a 4 (⟨#[40]⟩ : ByteArray)
    · simp only [Bool.false_eq_true, if_false]
      have eqn : (∃ i la2 c2, ∃ a2 : Nat, (cond_reader__is.f ⟨l, (a : Int), la, d, c⟩ >>= fun | .inl pe => some (.inl pe) | .inr (t24, t25, t26, t27) => some (.inr (t24, t25, t26, d, t27)) : Option (Sum PErr (Int × Int × api_Token × Int × (List api_Node)))) = some (.inr (i, (a2 : Int), la2, d, c2)) ∧ (weirref06_reader__equation.f ⟨l, (a : Int), la, d, c, F0⟩ >>= fun (t24, t25, t26, t27, t28) => some (t24, t25, t26, d, t27, t28) : Option (Int × Int × api_Token × Int × (List api_Node) × weirref05_Fault)) = some (i, (a2 : Int), la2, d, c2, F0) ∧ a < a2 ∧ a2 ≤ M l ∧ c2.length ≤ 1024) ∨ (∃ x y z, z ≠ 0 ∧ (cond_reader__is.f ⟨l, (a : Int), la, d, c⟩ >>= fun | .inl pe => some (.inl pe) | .inr (t24, t25, t26, t27) => some (.inr (t24, t25, t26, d, t27)) : Option (Sum PErr (Int × Int × api_Token × Int × (List api_Node)))) = some (.inl (.pos x y z)) ∧ ∃ i la2 d2 c2, ∃ a2 : Nat, a2 ≤ l.length ∧ (weirref06_reader__equation.f ⟨l, (a : Int), la, d, c, F0⟩ >>= fun (t24, t25, t26, t27, t28) => some (t24, t25, t26, d, t27, t28) : Option (Int × Int × api_Token × Int × (List api_Node) × weirref05_Fault)) = some (i, (a2 : Int), la2, d2, c2, ⟨x, y, z⟩)) := by
        rcases eq_sim (la := la) (d := d) hl ha hc with ⟨i, la2, c2, a2, p1, q1, g1, g2, g3⟩ | ⟨x, y, z, hz, p1, i, la2, c2, a2, g2, q1⟩
        · left
          rw [p1, q1]
          exact ⟨i, la2, c2, a2, rfl, rfl, g1, g2, g3⟩
        · right
          rw [p1, q1]
          exact ⟨x, y, z, hz, rfl, i, la2, d, c2, a2, g2, rfl⟩
      simp only [Option.bind_eq_bind] at eqn
      cases ht : sg l a 1 (⟨#[116, 114, 117, 101]⟩ : ByteArray)
      · simp only [Bool.false_eq_true, if_false, Option.bind_some]
        exact eqn
      · simp only [if_true]
        cases he : sg l (a + 1) 4 (⟨#[61]⟩ : ByteArray)
        · have hlt := lt_of _ _ ht
          have hltM := sg_M ht (by decide)
          simp only [Bool.not_false, if_true]
          rw [take_p hl hlt, take_d hl hlt]
          simp only [Option.bind_some]
          rcases node_sim (l := l) (a := a + 1) (la := gt l (a : Int)) (d := d) (⟨1, 0, 0, (⟨0, (⟨#[]⟩ : ByteArray)⟩ : api_Ref), 0⟩ : api_Node) hc with ⟨j, c3, hc3, p3, d3⟩ | ⟨x, y, p3, d3⟩
          · left
            rw [p3, d3]
            exact ⟨_, _, _, a + 1, rfl, rfl, by omega, by omega, hc3⟩
          · right
            rw [p3, d3]
            exact ⟨x, y, 1, by decide, rfl, _, _, _, _, a + 1, by omega, rfl⟩
        · simp only [Bool.not_true, Bool.false_eq_true, if_false, Option.bind_some]
          exact eqn
    · have hlt := lt_of _ _ hp
      simp only [if_true]
      rcases opens_sim (la := la) (c := c) hl hlt ⟨h0, h1⟩ with ⟨hd, p1, q1⟩ | ⟨x, y, p1, q1⟩
      · rw [p1, q1]
        simp only [Option.bind_some]
        rcases ho (a + 1) (gt l (a : Int)) (d + 1) c (by omega) (by omega) (by omega) (by omega) hc with ⟨b, la2, c2, a2, p2, q2, g1, g2, g3⟩ | ⟨x, y, z, hz, p2, b, la2, d2, c2, a2, g2, q2⟩
        · rw [p2, q2]
          simp only [Option.bind_some]
          rcases sign_sim (la := la2) (d := d + 1) (c := c2) (⟨#[41]⟩ : ByteArray) hl (Nat.le_trans g2 hM) with ⟨g4, p3, d3⟩ | ⟨x, y, p3, d3⟩
          · left
            rw [p3, d3, wi64_id (n := d + 1 - 1) (by omega) (by omega), show d + 1 - 1 = d by omega]
            exact ⟨_, _, _, a2 + 1, rfl, rfl, by omega, by omega, g3⟩
          · right
            rw [p3, d3]
            exact ⟨x, y, 70, by decide, rfl, _, _, _, _, a2, Nat.le_trans g2 hM, rfl⟩
        · right
          rw [p2, q2]
          simp only [Option.bind_some]
          rw [sign_bad _ hl (show (⟨x, y, z⟩ : weirref05_Fault).Code ≠ 0 from hz)]
          exact ⟨x, y, z, hz, rfl, _, _, _, _, a2, g2, rfl⟩
      · right
        rw [p1, q1]
        simp only [Option.bind_some]
        rw [hob a la d c ⟨x, y, 2⟩ ha (by show (2 : Int) ≠ 0; decide)]
        simp only [Option.bind_some]
        rw [sign_bad _ hl (show (⟨x, y, 2⟩ : weirref05_Fault).Code ≠ 0 by show (2 : Int) ≠ 0; decide)]
        exact ⟨x, y, 2, by decide, rfl, _, _, _, _, a, ha, rfl⟩
  · have hlt := lt_of _ _ hn
    simp only [if_true]
    rcases opens_sim (la := la) (c := c) hl hlt ⟨h0, h1⟩ with ⟨hd, p1, q1⟩ | ⟨x, y, p1, q1⟩
    · rw [p1, q1]
      simp only [Option.bind_some]
      rcases hs (a + 1) (gt l (a : Int)) (d + 1) c (by omega) (by omega) (by omega) (by omega) hc with ⟨b, la2, c2, a2, p2, q2, g1, g2, g3⟩ | ⟨x, y, z, hz, p2, b, la2, d2, c2, a2, g2, q2⟩
      · rw [p2, q2]
        simp only [Option.bind_some]
        rw [wi64_id (n := d + 1 - 1) (by omega) (by omega), show d + 1 - 1 = d by omega]
        rcases node_sim (l := l) (a := a2) (la := la2) (d := d) (⟨3, b, 0, (⟨0, (⟨#[]⟩ : ByteArray)⟩ : api_Ref), 0⟩ : api_Node) g3 with ⟨j, c3, hc3, p3, d3⟩ | ⟨x, y, p3, d3⟩
        · left
          rw [p3, d3]
          exact ⟨_, _, _, a2, rfl, rfl, by omega, g2, hc3⟩
        · right
          rw [p3, d3]
          exact ⟨x, y, 1, by decide, rfl, _, _, _, _, a2, Nat.le_trans g2 hM, rfl⟩
      · right
        rw [p2, q2]
        simp only [Option.bind_some]
        rw [node_bad _ (show (⟨x, y, z⟩ : weirref05_Fault).Code ≠ 0 from hz)]
        exact ⟨x, y, z, hz, rfl, _, _, _, _, a2, g2, rfl⟩
    · right
      rw [p1, q1]
      simp only [Option.bind_some]
      rw [hb a la d c ⟨x, y, 2⟩ ha (by show (2 : Int) ≠ 0; decide)]
      simp only [Option.bind_some]
      rw [node_bad _ (show (⟨x, y, 2⟩ : weirref05_Fault).Code ≠ 0 by show (2 : Int) ≠ 0; decide)]
      exact ⟨x, y, 2, by decide, rfl, _, _, _, _, a, ha, rfl⟩
theorem nots {l : Toks} (hl : l.length ≤ 2199023255552) : ∀ n : Nat, SimF l (n : Int) (cond_reader__not.f (n + 1)) (weirref06_reader__not.f (n + 1)) ∧ BadF l (weirref06_reader__not.f (n + 1))
  | 0 => ⟨fun a la d c ha h0 h1 h2 hc => by omega, not_bad⟩
  | n + 1 => by
    obtain ⟨h1, h2⟩ := nots hl n
    refine ⟨?_, not_bad⟩
    have := not_sim hl h1 h2
    rw [show ((n + 1 : Nat) : Int) = (n : Int) + 1 by omega]
    exact this
theorem cond_sim {l : Toks} (hl : l.length ≤ 2199023255552) : SimF l 1000 (cond_reader__cond_2.f (cond_reader__not.f fuelN)) (weirref06_reader__or_2.f (weirref06_reader__not.f fuelN)) := by
  have hf := fuelN_ge
  obtain ⟨m, hm⟩ : ∃ m, fuelN = m + 1 := ⟨fuelN - 1, by omega⟩
  rw [hm]
  have h := or_sim hl (and_sim hl (nots hl m).1)
  intro a la d c ha h0 h1 h2 hc
  exact h a la d c ha h0 h1 (by omega) hc
end Go.Proofs.YtboejepakdnbgaaGreatDoor.K.C
