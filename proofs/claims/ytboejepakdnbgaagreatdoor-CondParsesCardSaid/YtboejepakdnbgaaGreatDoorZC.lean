/- An equation: the program's reading against the document's. -/
import Derived.Test.YtboejepakdnbgaaGreatDoorZB
set_option linter.unusedVariables false
set_option linter.unusedSimpArgs false
set_option maxRecDepth 100000
namespace Go.Proofs.YtboejepakdnbgaaGreatDoor.K.C
open Go

def eqPart (a0v : weirref06_reader) : Option (Int × api_Token × weirref05_Fault × api_Ref) :=
  (weirref06_reader__is.f (⟨a0v.L, a0v.At, a0v.Last, a0v.Deep, a0v.C, a0v.F⟩ : weirref06_reader) 0 4 (⟨#[91]⟩ : ByteArray) >>= fun t7 => ((if t7 = true then (weirref06_reader__take.f (⟨a0v.L, a0v.At, a0v.Last, a0v.Deep, a0v.C, a0v.F⟩ : weirref06_reader) >>= (fun (t228, t229, t230) => (weirref06_reader__name.f (⟨a0v.L, t229, t230, a0v.Deep, a0v.C, a0v.F⟩ : weirref06_reader) >>= (fun (t241, t242, t243, t244) => (weirref06_reader__sign.f (⟨a0v.L, t242, t243, a0v.Deep, a0v.C, t244⟩ : weirref06_reader) (⟨#[93]⟩ : ByteArray) >>= (fun (t258, t259, t260) => some ((t258, t259, t260, (⟨(-1), t241⟩ : api_Ref))))))))) else (if (decide (a0v.At < (a0v.L.length : Int))) = true then (if 0 ≤ a0v.At ∧ a0v.At < (a0v.L.length : Int) then (if (((gt a0v.L a0v.At).Kind) == 2) = true then (if 0 ≤ a0v.At ∧ a0v.At < (a0v.L.length : Int) then (weirref06_thread.f ((gt a0v.L a0v.At).Text) >>= (fun t95 => (if (decide (t95 ≥ 0)) = true then (weirref06_reader__take.f (⟨a0v.L, a0v.At, a0v.Last, a0v.Deep, a0v.C, a0v.F⟩ : weirref06_reader) >>= (fun (t106, t107, t108) => (weirref06_thread.f t106.Text >>= (fun t119 => (weirref06_reader__sign.f (⟨a0v.L, t107, t108, a0v.Deep, a0v.C, a0v.F⟩ : weirref06_reader) (⟨#[58]⟩ : ByteArray) >>= (fun (t127, t128, t129) => (weirref06_reader__name.f (⟨a0v.L, t127, t128, a0v.Deep, a0v.C, t129⟩ : weirref06_reader) >>= (fun (t142, t143, t144, t145) => some ((t143, t144, t145, (⟨t119, t142⟩ : api_Ref))))))))))) else (weirref06_reader__name.f (⟨a0v.L, a0v.At, a0v.Last, a0v.Deep, a0v.C, a0v.F⟩ : weirref06_reader) >>= (fun (t164, t165, t166, t167) => some ((t165, t166, t167, (⟨(-1), t164⟩ : api_Ref)))))))) else none) else (weirref06_reader__name.f (⟨a0v.L, a0v.At, a0v.Last, a0v.Deep, a0v.C, a0v.F⟩ : weirref06_reader) >>= (fun (t186, t187, t188, t189) => some ((t187, t188, t189, (⟨(-1), t186⟩ : api_Ref)))))) else none) else (weirref06_reader__name.f (⟨a0v.L, a0v.At, a0v.Last, a0v.Deep, a0v.C, a0v.F⟩ : weirref06_reader) >>= (fun (t208, t209, t210, t211) => some ((t209, t210, t211, (⟨(-1), t208⟩ : api_Ref))))))) : Option (Int × api_Token × weirref05_Fault × api_Ref)))
def eqTail (a0v : weirref06_reader) (t25 : Int) (t26 : api_Token) (t27 : weirref05_Fault) (t28 : api_Ref) : Option (Int × Int × api_Token × (List api_Node) × weirref05_Fault) :=
  (weirref06_reader__sign.f (⟨a0v.L, t25, t26, a0v.Deep, a0v.C, t27⟩ : weirref06_reader) (⟨#[61]⟩ : ByteArray) >>= (fun (t34, t35, t36) => (weirref06_reader__number.f (⟨a0v.L, t34, t35, a0v.Deep, a0v.C, t36⟩ : weirref06_reader) >>= (fun (t48, t49, t50, t51) => (weirref06_reader__node.f (⟨a0v.L, t49, t50, a0v.Deep, a0v.C, t51⟩ : weirref06_reader) (⟨2, 0, 0, t28, t48⟩ : api_Node) >>= (fun (t62, t63, t64) => some ((t62, t49, t50, t63, t64))))))))
def isTail (a0v : cond_reader) (t1 : api_Ref) (t2 : Int) (t3 : api_Token) : Option (Sum PErr (Int × Int × api_Token × (List api_Node))) :=
  (cond_reader__sign.f (⟨a0v.l, t2, t3, a0v.depth, a0v.c⟩ : cond_reader) (⟨#[61]⟩ : ByteArray) >>= (fun | .inl pe43 => some (.inl pe43) | .inr (t38, t39) => (cond_reader__next.f (⟨a0v.l, t38, t39, a0v.depth, a0v.c⟩ : cond_reader) >>= (fun (t71, t72) => (if (!t72) = true then (cond_reader__syntax.f (⟨a0v.l, t38, t39, a0v.depth, a0v.c⟩ : cond_reader) >>= (fun | .inl pe97 => some (.inl pe97) | .inr _ => none)) else (if (t71.Kind != 2) = true then (cond_reader__syntax.f (⟨a0v.l, t38, t39, a0v.depth, a0v.c⟩ : cond_reader) >>= (fun | .inl pe122 => some (.inl pe122) | .inr _ => none)) else (cond_reader__take.f (⟨a0v.l, t38, t39, a0v.depth, a0v.c⟩ : cond_reader) >>= (fun (t141, t142, t143) => (cond_reader__node.f (⟨a0v.l, t142, t143, a0v.depth, a0v.c⟩ : cond_reader) (⟨2, 0, 0, t1, t141.Value⟩ : api_Node) >>= (fun | .inl pe166 => some (.inl pe166) | .inr (t159, t160) => some (.inr (t159, t142, t143, t160))))))))))))
theorem eq_parts (r : weirref06_reader) : weirref06_reader__equation.f r = (eqPart r >>= fun (x, y, z, u) => eqTail r x y z u) := by
  unfold weirref06_reader__equation.f eqPart eqTail
  simp only [Option.bind_eq_bind, Option.bind_assoc]
theorem is_parts (r : cond_reader) : cond_reader__is.f r = (cond_reader__ref.f ⟨r.l, r.at_, r.last, r.depth, r.c⟩ >>= fun | .inl e => some (.inl e) | .inr (x, y, z) => isTail r x y z) := rfl
section
variable {l : Toks} {a : Nat} {la : api_Token} {d : Int} {c : Nods} {F : weirref05_Fault}
theorem num_sim (hl : l.length ≤ 2199023255552) (ha : a ≤ l.length) :
    (a < l.length ∧ (gt l (a : Int)).Kind = 2 ∧ weirref06_reader__number.f ⟨l, (a : Int), la, d, c, F0⟩ = some ((gt l (a : Int)).Value, ((a + 1 : Nat) : Int), gt l (a : Int), F0)) ∨
    (¬ (a < l.length ∧ (gt l (a : Int)).Kind = 2) ∧ weirref06_reader__number.f ⟨l, (a : Int), la, d, c, F0⟩ = some (0, (a : Int), la, ⟨(synT l a).Line, (synT l a).Col, 70⟩)) := by
  unfold weirref06_reader__number.f
  dsimp only
  rw [bad_d]
  simp only [Option.bind_eq_bind, Option.bind_some, bne_self_eq_false, Bool.false_eq_true, if_false]
  by_cases h : a < l.length
  · have g : (0 : Int) ≤ (a : Int) ∧ (a : Int) < (l.length : Int) := by omega
    rw [if_neg (nt (decide_eq_false (show ¬ (a : Int) ≥ (l.length : Int) by omega))), if_pos g, syntax_d hl, take_d hl h]
    by_cases hk : (gt l (a : Int)).Kind = 2
    · left
      rw [if_neg (by rw [hk]; decide)]
      exact ⟨h, hk, rfl⟩
    · right
      rw [if_pos (bne_iff_ne.2 hk)]
      exact ⟨fun x => hk x.2, rfl⟩
  · right
    rw [if_pos (decide_eq_true (show (a : Int) ≥ (l.length : Int) by omega)), syntax_d hl]
    exact ⟨fun x => h x.1, rfl⟩
theorem tail_bad (hl : l.length ≤ 2199023255552) (hF : F.Code ≠ 0) (a0 : Int) (l0 : api_Token) (f0 : weirref05_Fault) (r : api_Ref) : eqTail ⟨l, a0, l0, d, c, f0⟩ (a : Int) la F r = some (0, (a : Int), la, c, F) := by
  unfold eqTail
  dsimp only
  rw [sign_bad _ hl hF]
  simp only [Option.bind_eq_bind, Option.bind_some]
  rw [number_bad hl hF]
  simp only [Option.bind_eq_bind, Option.bind_some]
  rw [node_bad _ hF]; rfl
theorem tail_sim (hl : l.length ≤ 2199023255552) (ha : a ≤ l.length) (hc : c.length ≤ 1024) (a0 : Int) (l0 : api_Token) (f0 : weirref05_Fault) (r : api_Ref) :
    (∃ i la2 c2, ∃ a2 : Nat, isTail ⟨l, a0, l0, d, c⟩ r (a : Int) la = some (.inr (i, (a2 : Int), la2, c2)) ∧ eqTail ⟨l, a0, l0, d, c, f0⟩ (a : Int) la F0 r = some (i, (a2 : Int), la2, c2, F0) ∧ a ≤ a2 ∧ a2 ≤ M l ∧ c2.length ≤ 1024) ∨
    (∃ x y z, z ≠ 0 ∧ isTail ⟨l, a0, l0, d, c⟩ r (a : Int) la = some (.inl (.pos x y z)) ∧ ∃ i la2 c2, ∃ a2 : Nat, a2 ≤ l.length ∧ eqTail ⟨l, a0, l0, d, c, f0⟩ (a : Int) la F0 r = some (i, (a2 : Int), la2, c2, ⟨x, y, z⟩)) := by
  have hM := M_le l
  unfold eqTail isTail
  dsimp only
  rcases sign_sim (la := la) (d := d) (c := c) (⟨#[61]⟩ : ByteArray) hl ha with ⟨h1, p1, d1⟩ | ⟨x, y, p1, d1⟩
  · rw [p1, d1]
    simp only [Option.bind_eq_bind, Option.bind_some]
    rw [next_p]
    rcases num_sim (la := gt l (a : Int)) (d := d) (c := c) hl (show a + 1 ≤ l.length by omega) with ⟨h2, k2, d2⟩ | ⟨h2, d2⟩
    · rw [d2, if_pos h2]
      simp only [Option.bind_some]
      rw [if_neg (by decide), if_neg (by rw [k2]; decide), take_p hl h2]
      simp only [Option.bind_some]
      rcases node_sim (l := l) (a := a + 1 + 1) (la := gt l ((a + 1 : Nat) : Int)) (d := d) (⟨2, 0, 0, r, (gt l ((a + 1 : Nat) : Int)).Value⟩ : api_Node) hc with ⟨i, c', hc', p3, d3⟩ | ⟨x, y, p3, d3⟩
      · left
        rw [p3, d3]
        have hh : a + 1 < M l := lt_M h2 (by rw [k2]; decide)
        exact ⟨_, _, _, a + 1 + 1, rfl, rfl, by omega, by omega, hc'⟩
      · right
        rw [p3, d3]
        exact ⟨x, y, 1, by decide, rfl, _, _, _, a + 1 + 1, by omega, rfl⟩
    · right
      rw [d2]
      simp only [Option.bind_some]
      rw [node_bad _ (show (70 : Int) ≠ 0 by decide)]
      by_cases h3 : a + 1 < l.length
      · have hk : ((gt l ((a + 1 : Nat) : Int)).Kind != 2) = true := bne_iff_ne.2 (fun k => h2 ⟨h3, k⟩)
        rw [if_pos h3]
        simp only [Option.bind_some]
        rw [if_neg (by decide), if_pos hk, syntax_p hl]
        exact ⟨_, _, 70, by decide, rfl, _, _, _, a + 1, by omega, rfl⟩
      · rw [if_neg h3]
        simp only [Option.bind_some]
        rw [if_pos (by decide), syntax_p hl]
        exact ⟨_, _, 70, by decide, rfl, _, _, _, a + 1, by omega, rfl⟩
  · right
    rw [p1, d1]
    simp only [Option.bind_eq_bind, Option.bind_some]
    rw [number_bad hl (show (70 : Int) ≠ 0 by decide)]
    simp only [Option.bind_some]
    rw [node_bad _ (show (70 : Int) ≠ 0 by decide)]
    exact ⟨x, y, 70, by decide, rfl, _, _, _, a, ha, rfl⟩
theorem ref_sim (hl : l.length ≤ 2199023255552) (ha : a ≤ l.length) :
    (∃ r la2, ∃ a2 : Nat, cond_reader__ref.f ⟨l, (a : Int), la, d, c⟩ = some (.inr (r, (a2 : Int), la2)) ∧ eqPart ⟨l, (a : Int), la, d, c, F0⟩ = some ((a2 : Int), la2, F0, r) ∧ a < a2 ∧ a2 ≤ M l) ∨
    (∃ x y, cond_reader__ref.f ⟨l, (a : Int), la, d, c⟩ = some (.inl (.pos x y 70)) ∧ ∃ r la2, ∃ a2 : Nat, a2 ≤ l.length ∧ eqPart ⟨l, (a : Int), la, d, c, F0⟩ = some ((a2 : Int), la2, ⟨x, y, 70⟩, r)) := by
  have b70 : (70 : Int) ≠ 0 := by decide
  have hM := M_le l
  unfold cond_reader__ref.f eqPart
  dsimp only
  rw [show ((0 : Int)) = ((0 : Nat) : Int) from rfl, sees_p 0 4 _ hl ha (by decide), is_d 0 4 _ hl ha (by decide), Nat.add_zero, show (((0 : Nat)) : Int) = 0 from rfl]
  simp only [Option.bind_eq_bind, Option.bind_some]
  -- a name alone
  have alone : ∀ {α : Type}, (∃ t la2, ∃ a2 : Nat, cond_reader__name.f ⟨l, (a : Int), la, d, c⟩ = some (.inr (t, (a2 : Int), la2)) ∧ weirref06_reader__name.f ⟨l, (a : Int), la, d, c, F0⟩ = some (t, (a2 : Int), la2, F0) ∧ a < a2 ∧ a2 ≤ M l) ∨ (∃ x y, cond_reader__name.f ⟨l, (a : Int), la, d, c⟩ = some (.inl (.pos x y 70)) ∧ weirref06_reader__name.f ⟨l, (a : Int), la, d, c, F0⟩ = some (⟨#[]⟩, (a : Int), la, ⟨x, y, 70⟩)) := by
    intro _
    rcases name_sim (la := la) (d := d) (c := c) hl ha with ⟨h1, p1, d1⟩ | ⟨x, y, p1, d1⟩
    · exact .inl ⟨_, _, a + 1, p1, d1, by omega, by omega⟩
    · exact .inr ⟨x, y, p1, d1⟩
  cases hs : sg l a 4 (⟨#[91]⟩ : ByteArray)
  · simp only [Bool.false_eq_true, if_false]
    rw [next_p]
    by_cases h : a < l.length
    · have g : (0 : Int) ≤ (a : Int) ∧ (a : Int) < (l.length : Int) := by omega
      rw [if_pos h, if_pos (decide_eq_true g.2), if_pos g]
      simp only [Option.bind_some, if_true]
      by_cases hk : (gt l (a : Int)).Kind = 2
      · have hk' : ((gt l (a : Int)).Kind == 2) = true := by rw [hk]; rfl
        simp only [hk', if_true, if_pos g, thread_p, thread_d, Option.bind_some]
        cases ht : thr (gt l (a : Int)).Text with
        | none =>
          simp only [Bool.false_eq_true, if_false, Option.bind_some]
          rw [if_neg (by decide)]
          rcases alone (α := Unit) with ⟨t, la2, a2, p1, d1, h2, h3⟩ | ⟨x, y, p1, d1⟩
          · left
            rw [p1, d1]
            exact ⟨_, _, a2, rfl, rfl, h2, h3⟩
          · right
            rw [p1, d1]
            exact ⟨x, y, rfl, _, _, a, ha, rfl⟩
        | some n =>
          simp only [if_true]
          rw [if_pos (decide_eq_true (show (n : Int) ≥ 0 by omega)), take_p hl h, take_d hl h]
          simp only [Option.bind_some, thread_d, ht]
          rcases sign_sim (la := gt l (a : Int)) (d := d) (c := c) (⟨#[58]⟩ : ByteArray) hl (show a + 1 ≤ l.length by omega) with ⟨h1, p1, d1⟩ | ⟨x, y, p1, d1⟩
          · rw [p1, d1]
            simp only [Option.bind_some]
            rcases name_sim (la := gt l ((a + 1 : Nat) : Int)) (d := d) (c := c) hl (show a + 1 + 1 ≤ l.length by omega) with ⟨h2, p2, d2⟩ | ⟨x, y, p2, d2⟩
            · left
              rw [p2, d2]
              exact ⟨_, _, a + 1 + 1 + 1, rfl, rfl, by omega, by omega⟩
            · right
              rw [p2, d2]
              exact ⟨x, y, rfl, _, _, a + 1 + 1, by omega, rfl⟩
          · right
            rw [p1, d1]
            simp only [Option.bind_some]
            rw [name_bad hl b70]
            exact ⟨x, y, rfl, _, _, a + 1, by omega, rfl⟩
      · have hk' : ((gt l (a : Int)).Kind == 2) = false := beq_eq_false_iff_ne.2 hk
        simp only [hk', Bool.false_eq_true, if_false, Option.bind_some]
        rcases alone (α := Unit) with ⟨t, la2, a2, p1, d1, h2, h3⟩ | ⟨x, y, p1, d1⟩
        · left
          rw [p1, d1]
          exact ⟨_, _, a2, rfl, rfl, h2, h3⟩
        · right
          rw [p1, d1]
          exact ⟨x, y, rfl, _, _, a, ha, rfl⟩
    · rw [if_neg h, if_neg (nt (decide_eq_false (show ¬ (a : Int) < (l.length : Int) by omega)))]
      simp only [Option.bind_some, Bool.false_eq_true, if_false]
      rcases alone (α := Unit) with ⟨t, la2, a2, p1, d1, h2, h3⟩ | ⟨x, y, p1, d1⟩
      · left
        rw [p1, d1]
        exact ⟨_, _, a2, rfl, rfl, h2, h3⟩
      · right
        rw [p1, d1]
        exact ⟨x, y, rfl, _, _, a, ha, rfl⟩
  · have h1 : a < l.length := by
      unfold sg at hs
      simp only [Bool.and_eq_true, decide_eq_true_eq] at hs
      exact hs.1
    simp only [if_true]
    rw [take_p hl h1, take_d hl h1]
    simp only [Option.bind_some]
    rcases name_sim (la := gt l (a : Int)) (d := d) (c := c) hl (show a + 1 ≤ l.length by omega) with ⟨h2, p2, d2⟩ | ⟨x, y, p2, d2⟩
    · rw [p2, d2]
      simp only [Option.bind_some]
      rcases sign_sim (la := gt l ((a + 1 : Nat) : Int)) (d := d) (c := c) (⟨#[93]⟩ : ByteArray) hl (show a + 1 + 1 ≤ l.length by omega) with ⟨h3, p3, d3⟩ | ⟨x, y, p3, d3⟩
      · left
        rw [p3, d3]
        exact ⟨_, _, a + 1 + 1 + 1, rfl, rfl, by omega, by omega⟩
      · right
        rw [p3, d3]
        exact ⟨x, y, rfl, _, _, a + 1 + 1, by omega, rfl⟩
    · right
      rw [p2, d2]
      simp only [Option.bind_some]
      rw [sign_bad _ hl b70]
      exact ⟨x, y, rfl, _, _, a + 1, by omega, rfl⟩
theorem eq_sim (hl : l.length ≤ 2199023255552) (ha : a ≤ l.length) (hc : c.length ≤ 1024) :
    (∃ i la2 c2, ∃ a2 : Nat, cond_reader__is.f ⟨l, (a : Int), la, d, c⟩ = some (.inr (i, (a2 : Int), la2, c2)) ∧ weirref06_reader__equation.f ⟨l, (a : Int), la, d, c, F0⟩ = some (i, (a2 : Int), la2, c2, F0) ∧ a < a2 ∧ a2 ≤ M l ∧ c2.length ≤ 1024) ∨
    (∃ x y z, z ≠ 0 ∧ cond_reader__is.f ⟨l, (a : Int), la, d, c⟩ = some (.inl (.pos x y z)) ∧ ∃ i la2 c2, ∃ a2 : Nat, a2 ≤ l.length ∧ weirref06_reader__equation.f ⟨l, (a : Int), la, d, c, F0⟩ = some (i, (a2 : Int), la2, c2, ⟨x, y, z⟩)) := by
  rw [is_parts, eq_parts]
  rcases ref_sim (la := la) (d := d) (c := c) hl ha with ⟨r, la2, a2, p1, d1, h1, h2⟩ | ⟨x, y, p1, r, la2, a2, h2, d1⟩
  · rw [p1, d1]
    simp only [Option.bind_eq_bind, Option.bind_some]
    rcases tail_sim (la := la2) (d := d) (c := c) hl (Nat.le_trans h2 (M_le l)) hc (a : Int) la F0 r with ⟨i, la3, c3, a3, p3, d3, h3, h4, h5⟩ | ⟨x, y, z, hz, p3, i, la3, c3, a3, h3, d3⟩
    · left
      exact ⟨i, la3, c3, a3, p3, d3, by omega, h4, h5⟩
    · right
      exact ⟨x, y, z, hz, p3, i, la3, c3, a3, h3, d3⟩
  · right
    rw [p1, d1]
    simp only [Option.bind_eq_bind, Option.bind_some]
    rw [tail_bad hl (show (70 : Int) ≠ 0 by decide)]
    exact ⟨x, y, 70, by decide, rfl, _, _, _, a2, h2, rfl⟩
end
end Go.Proofs.YtboejepakdnbgaaGreatDoor.K.C
