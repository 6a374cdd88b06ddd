/- What the reader reads is a tree by the grammar; what Parse answers. -/
import Derived.Test.YtboejepakdnbgaaGreatDoorTF
set_option linter.unusedVariables false
set_option linter.unusedSectionVars false
set_option linter.unusedSimpArgs false
set_option maxRecDepth 100000
namespace Go.Proofs.YtboejepakdnbgaaGreatDoor.K.C
open Go

def isP : PErr → Bool
  | .pos _ _ _ => true
  | _ => false
def Er {β : Type} (x : Option (Sum PErr β)) : Prop := ∃ e, isP e = true ∧ x = some (.inl e)
abbrev Res := Sum PErr (Int × Int × api_Token × Int × (List api_Node))
theorem m1 {s : ByteArray} : -1 ≤ (⟨-1, s⟩ : api_Ref).Thread ∧ (⟨-1, s⟩ : api_Ref).Thread ≤ 9999 := ⟨by show (-1 : Int) ≤ -1; decide, by show (-1 : Int) ≤ 9999; decide⟩
theorem sg_ok {l : Toks} {i : Nat} {k : Int} {s : ByteArray} (h : sg l i k s = true) : T l i k s := by
  unfold sg at h
  simp only [Bool.and_eq_true, decide_eq_true_eq, beq_iff_eq] at h
  exact ⟨h.1, h.2.1, h.2.2⟩
section
variable {l : Toks} (hl : l.length ≤ 2199023255552) {a : Nat} {la : api_Token} {d : Int} {c : Nods}
include hl
theorem sees0 (k : Int) (s : ByteArray) (ha : a ≤ l.length) : cond_reader__sees.f ⟨l, (a : Int), la, d, c⟩ 0 k s = some (sg l a k s) := by
  have := sees_p (l := l) (a := a) (la := la) (d := d) (c := c) 0 k s hl ha (by decide)
  simpa using this
theorem sees1 (k : Int) (s : ByteArray) (ha : a ≤ l.length) : cond_reader__sees.f ⟨l, (a : Int), la, d, c⟩ 1 k s = some (sg l (a + 1) k s) := by
  have := sees_p (l := l) (a := a) (la := la) (d := d) (c := c) 1 k s hl ha (by decide)
  simpa using this
theorem sign_r (s : ByteArray) (ha : a ≤ l.length) : (T l a 4 s ∧ cond_reader__sign.f ⟨l, (a : Int), la, d, c⟩ s = some (.inr (((a + 1 : Nat) : Int), gt l (a : Int)))) ∨ Er (cond_reader__sign.f ⟨l, (a : Int), la, d, c⟩ s) := by
  cases hs : sg l a 4 s
  · right
    refine ⟨.pos (synT l a).Line (synT l a).Col 70, ?_, ?_⟩
    rotate_left
    · unfold cond_reader__sign.f
      rw [sees0 hl _ _ ha, hs]
      simp only [Option.bind_eq_bind, Option.bind_some, Bool.not_false, if_true, syntax_p hl]
    · rfl
  · exact .inl ⟨sg_ok hs, sign_T hl (sg_ok hs)⟩
theorem name_r (ha : a ≤ l.length) : (Nm l a (gt l (a : Int)).Text ∧ cond_reader__name.f ⟨l, (a : Int), la, d, c⟩ = some (.inr ((gt l (a : Int)).Text, ((a + 1 : Nat) : Int), gt l (a : Int)))) ∨ Er (cond_reader__name.f ⟨l, (a : Int), la, d, c⟩) := by
  by_cases h : a < l.length
  · by_cases hk : (gt l (a : Int)).Kind = 1
    · cases hn : isName (gt l (a : Int)).Text
      · right
        refine ⟨.pos (synT l a).Line (synT l a).Col 70, ?_, ?_⟩
        rotate_left
        · unfold cond_reader__name.f
          rw [next_p, if_pos h]
          simp only [Option.bind_eq_bind, Option.bind_some, Bool.not_true, Bool.false_eq_true, if_false]
          rw [if_neg (by simp [hk]), name_p, hn]
          simp only [Option.bind_some, Bool.not_false, if_true, syntax_p hl]
        · rfl
      · have hN : Nm l a (gt l (a : Int)).Text := ⟨⟨h, hk, rfl⟩, hn⟩
        exact .inl ⟨hN, name_T hl hN⟩
    · right
      refine ⟨.pos (synT l a).Line (synT l a).Col 70, ?_, ?_⟩
      rotate_left
      · unfold cond_reader__name.f
        rw [next_p, if_pos h]
        simp only [Option.bind_eq_bind, Option.bind_some, Bool.not_true, Bool.false_eq_true, if_false]
        rw [if_pos (by simpa using hk)]
        simp only [syntax_p hl, Option.bind_some]
      · rfl
  · right
    refine ⟨.pos (synT l a).Line (synT l a).Col 70, ?_, ?_⟩
    rotate_left
    · unfold cond_reader__name.f
      rw [next_p, if_neg h]
      simp only [Option.bind_eq_bind, Option.bind_some, Bool.not_false, if_true, syntax_p hl]
    · rfl
theorem node_r (x : api_Node) (hc : c.length ≤ 1024) : (c.length < 1024 ∧ cond_reader__node.f ⟨l, (a : Int), la, d, c⟩ x = some (.inr ((c.length : Int), c ++ [x]))) ∨ Er (cond_reader__node.f ⟨l, (a : Int), la, d, c⟩ x) := by
  by_cases h : c.length < 1024
  · exact .inl ⟨h, node_T hl x h⟩
  · right
    have : c.length = 1024 := by omega
    refine ⟨.pos la.Line la.Col 1, ?_, ?_⟩
    rotate_left
    · unfold cond_reader__node.f
      dsimp only
      rw [if_pos (by rw [this]; rfl), fail_p]
      rfl
    · rfl
theorem opens_r (ha : a < l.length) (h0 : 0 ≤ d ∧ d ≤ 64) : (d < 64 ∧ cond_reader__opens.f ⟨l, (a : Int), la, d, c⟩ = some (.inr (((a + 1 : Nat) : Int), gt l (a : Int), d + 1))) ∨ Er (cond_reader__opens.f ⟨l, (a : Int), la, d, c⟩) := by
  rcases opens_sim (la := la) (c := c) hl ha h0 with ⟨h1, h2, -⟩ | ⟨x, y, h2, -⟩
  · exact .inl ⟨h1, h2⟩
  · exact .inr ⟨_, rfl, h2⟩
theorem thr_le {s : ByteArray} {n : Nat} (h : thr s = some n) : n ≤ 9999 := by
  unfold thr at h
  split at h
  · rename_i h4
    have h1 := Lib.decFrom_lt _ 0 n h
    have h2 : s.data.toList.length ≤ 4 := by rw [← K.size_l]; exact h4.2
    have h3 := Nat.pow_le_pow_right (n := 10) (by decide) h2
    omega
  · cases h
theorem ref_r (ha : a ≤ l.length) : (∃ r j la', Rf l r a j ∧ (-1 ≤ r.Thread ∧ r.Thread ≤ 9999) ∧ isName r.Name = true ∧ cond_reader__ref.f ⟨l, (a : Int), la, d, c⟩ = some (.inr (r, ((j : Nat) : Int), la'))) ∨ Er (cond_reader__ref.f ⟨l, (a : Int), la, d, c⟩) := by
  have fin : (∃ r j la', Rf l r a j ∧ (-1 ≤ r.Thread ∧ r.Thread ≤ 9999) ∧ isName r.Name = true ∧ (cond_reader__name.f ⟨l, (a : Int), la, d, c⟩ >>= (fun | .inl pe43 => some (.inl pe43) | .inr (t37,t38,t39) => some (.inr ((⟨(-1),t37⟩ : api_Ref),t38,t39))) : Option (Sum PErr (api_Ref × Int × api_Token))) = some (.inr (r, ((j : Nat) : Int), la'))) ∨ Er (cond_reader__name.f ⟨l, (a : Int), la, d, c⟩ >>= (fun | .inl pe43 => some (.inl pe43) | .inr (t37,t38,t39) => some (.inr ((⟨(-1),t37⟩ : api_Ref),t38,t39))) : Option (Sum PErr (api_Ref × Int × api_Token))) := by
    rcases name_r hl (la := la) (d := d) (c := c) ha with ⟨h1, h2⟩ | ⟨e, h1, h2⟩
    · rw [h2]
      exact .inl ⟨_, _, _, .nm h1, m1, h1.2, rfl⟩
    · rw [h2]
      exact .inr ⟨e, h1, rfl⟩
  unfold cond_reader__ref.f
  rw [sees0 hl _ _ ha]
  simp only [Option.bind_eq_bind, Option.bind_some] at fin ⊢
  cases hs : sg l a 4 (⟨#[91]⟩ : ByteArray)
  · simp only [Bool.false_eq_true, if_false]
    rw [next_p]
    by_cases h : a < l.length
    · rw [if_pos h]
      simp only [Option.bind_some, if_true]
      by_cases hk : ((gt l (a : Int)).Kind == 2) = true
      · rw [if_pos hk, thread_p]
        cases ht : thr (gt l (a : Int)).Text with
        | none =>
          simp only [Option.bind_some, Bool.false_eq_true, if_false]
          exact fin
        | some n =>
          simp only [Option.bind_some, if_true]
          rw [take_p hl h]
          simp only [Option.bind_some]
          have hT : T l a 2 (gt l (a : Int)).Text := ⟨h, by simpa using hk, rfl⟩
          rcases sign_r hl (a := a + 1) (la := gt l (a : Int)) (d := d) (c := c) (⟨#[58]⟩ : ByteArray) (by omega) with ⟨g1, g2⟩ | ⟨e, g1, g2⟩
          · rw [g2]
            simp only [Option.bind_some]
            rcases name_r hl (a := a + 1 + 1) (la := gt l ((a + 1 : Nat) : Int)) (d := d) (c := c) (by have := g1.1; omega) with ⟨q1, q2⟩ | ⟨e, q1, q2⟩
            · rw [q2]
              have := thr_le hl ht
              exact .inl ⟨⟨(n : Int), (gt l ((a + 1 + 1 : Nat) : Int)).Text⟩, a + 1 + 1 + 1, _, .th hT ht g1 q1, ⟨by show (-1 : Int) ≤ (n : Int); omega, by show (n : Int) ≤ 9999; omega⟩, q1.2, rfl⟩
            · rw [q2]
              exact .inr ⟨e, q1, rfl⟩
          · rw [g2]
            exact .inr ⟨e, g1, rfl⟩
      · rw [if_neg hk]
        simp only [Option.bind_some]
        exact fin
    · rw [if_neg h]
      simp only [Option.bind_some, Bool.false_eq_true, if_false]
      exact fin
  · have hT := sg_ok hs
    simp only [if_true]
    rw [take_p hl hT.1]
    simp only [Option.bind_some]
    rcases name_r hl (a := a + 1) (la := gt l (a : Int)) (d := d) (c := c) (by have := hT.1; omega) with ⟨q1, q2⟩ | ⟨e, q1, q2⟩
    · rw [q2]
      simp only [Option.bind_some]
      rcases sign_r hl (a := a + 1 + 1) (la := gt l ((a + 1 : Nat) : Int)) (d := d) (c := c) (⟨#[93]⟩ : ByteArray) (by have := q1.1.1; omega) with ⟨g1, g2⟩ | ⟨e, g1, g2⟩
      · rw [g2]
        exact .inl ⟨_, a + 1 + 1 + 1, _, .br hT q1 g1, m1, q1.2, rfl⟩
      · rw [g2]
        exact .inr ⟨e, g1, rfl⟩
    · rw [q2]
      exact .inr ⟨e, q1, rfl⟩
theorem is_r (ha : a ≤ l.length) (hc : c.length ≤ 1024) : (∃ r j la', Rf l r a j ∧ (-1 ≤ r.Thread ∧ r.Thread ≤ 9999) ∧ isName r.Name = true ∧ T l j 4 (⟨#[61]⟩ : ByteArray) ∧ j + 1 < l.length ∧ (gt l ((j + 1 : Nat) : Int)).Kind = 2 ∧ c.length < 1024 ∧
    cond_reader__is.f ⟨l, (a : Int), la, d, c⟩ = some (.inr ((c.length : Int), ((j + 2 : Nat) : Int), la', c ++ [(⟨2, 0, 0, r, (gt l ((j + 1 : Nat) : Int)).Value⟩ : api_Node)]))) ∨ Er (cond_reader__is.f ⟨l, (a : Int), la, d, c⟩) := by
  unfold cond_reader__is.f
  dsimp only
  rcases ref_r hl (la := la) (d := d) (c := c) ha with ⟨r, j, la1, h1, h2, h3, h4⟩ | ⟨e, h1, h2⟩
  · rw [h4]
    simp only [Option.bind_eq_bind, Option.bind_some]
    have hj : j ≤ l.length := by
      cases h1 with
      | nm h => have := h.1.1; omega
      | br x y z => have := z.1; omega
      | th x y z w => have := w.1.1; omega
    rcases sign_r hl (a := j) (la := la1) (d := d) (c := c) (⟨#[61]⟩ : ByteArray) hj with ⟨g1, g2⟩ | ⟨e, g1, g2⟩
    · rw [g2]
      simp only [Option.bind_some]
      rw [next_p]
      by_cases h : j + 1 < l.length
      · rw [if_pos h]
        simp only [Option.bind_some, Bool.not_true, Bool.false_eq_true, if_false]
        by_cases hk : (gt l ((j + 1 : Nat) : Int)).Kind = 2
        · rw [if_neg (by rw [hk]; decide), take_p hl h]
          simp only [Option.bind_some]
          rcases node_r hl (a := j + 1 + 1) (la := gt l ((j + 1 : Nat) : Int)) (d := d) (c := c) (⟨2, 0, 0, r, (gt l ((j + 1 : Nat) : Int)).Value⟩ : api_Node) hc with ⟨q1, q2⟩ | ⟨e, q1, q2⟩
          · rw [q2]
            exact .inl ⟨r, j, _, h1, h2, h3, g1, h, hk, q1, rfl⟩
          · rw [q2]
            exact .inr ⟨e, q1, rfl⟩
        · rw [if_pos (by simpa using hk)]
          simp only [syntax_p hl, Option.bind_some]
          exact .inr ⟨_, rfl, rfl⟩
      · rw [if_neg h]
        simp only [Option.bind_some, Bool.not_false, if_true, syntax_p hl]
        exact .inr ⟨_, rfl, rfl⟩
    · rw [g2]
      exact .inr ⟨e, g1, rfl⟩
  · rw [h2]
    exact .inr ⟨e, h1, rfl⟩
end
structure Rv (l : Toks) (v : Nat) (a : Nat) (d : Int) (c : Nods) (t : Cd) (j e : Nat) : Prop where
  gr : Gr l v t a j e
  wf : t.wf = true
  vals : t.vals
  de : d + (e : Int) ≤ 64
  cn : c.length + t.n ≤ 1024
def out (c : Nods) (t : Cd) (j : Nat) (la : api_Token) (d : Int) : Int × Int × api_Token × Int × (List api_Node) := (((c.length + t.n - 1 : Nat) : Int), (j : Int), la, d, c ++ t.nodes c.length)
def RV (l : Toks) (n : Int) (p : cond_reader → Option Res) : Prop := ∀ (a : Nat) (la : api_Token) (d : Int) (c : Nods), a ≤ l.length → 0 ≤ d → d ≤ 64 → 64 - d < n → c.length ≤ 1024 →
  Er (p ⟨l, (a : Int), la, d, c⟩) ∨ ∃ t j e la', Rv l 0 a d c t j e ∧ p ⟨l, (a : Int), la, d, c⟩ = some (.inr (out c t j la' d))
section
variable {l : Toks} (hl : l.length ≤ 2199023255552) {n : Int} {p : cond_reader → Option Res}
include hl
theorem and_l (hp : RV l n p) {r0 : cond_reader} (hr0 : r0.l = l) : ∀ (m i j e : Nat) (t : Cd) (la : api_Token) (d : Int) (c : Nods), l.length - j ≤ m → 0 ≤ d → 64 - d < n → Rv l 1 i d c t j e →
    (∃ er, isP er = true ∧ cond_reader__chain_5.l0 p r0 (⟨#[47, 92]⟩ : ByteArray) 4 ((c.length + t.n - 1 : Nat) : Int) (j : Int) la d (c ++ t.nodes c.length) = some (.inr (.inl er))) ∨
    ∃ t' j' e' la', Rv l 1 i d c t' j' e' ∧ sg l j' 4 (⟨#[47, 92]⟩ : ByteArray) = false ∧ cond_reader__chain_5.l0 p r0 (⟨#[47, 92]⟩ : ByteArray) 4 ((c.length + t.n - 1 : Nat) : Int) (j : Int) la d (c ++ t.nodes c.length) = some (.inl (out c t' j' la' d)) := by
  intro m
  induction m with
  | zero =>
    intro i j e t la d c hm h0 hd h
    right
    have hs : sg l j 4 (⟨#[47, 92]⟩ : ByteArray) = false := by
      cases hs : sg l j 4 (⟨#[47, 92]⟩ : ByteArray)
      · rfl
      · have := (sg_ok hs).1; omega
    refine ⟨t, j, e, la, h, hs, ?_⟩
    rw [cond_reader__chain_5.l0]
    dsimp only
    rw [hr0, sees0 hl _ _ h.gr.lt.2, hs]
    rfl
  | succ m ih =>
    intro i j e t la d c hm h0 hd h
    cases hs : sg l j 4 (⟨#[47, 92]⟩ : ByteArray)
    · right
      refine ⟨t, j, e, la, h, hs, ?_⟩
      rw [cond_reader__chain_5.l0]
      dsimp only
      rw [hr0, sees0 hl _ _ h.gr.lt.2, hs]
      rfl
    · have hT := sg_ok hs
      have hcn := h.cn
      have hde := h.de
      have htn := t.n_pos
      rw [cond_reader__chain_5.l0]
      dsimp only
      rw [hr0, sees0 hl _ _ h.gr.lt.2, hs]
      simp only [Option.bind_eq_bind, Option.bind_some, if_true]
      rw [take_p hl hT.1]
      simp only [Option.bind_some]
      rcases hp (j + 1) (gt l (j : Int)) d (c ++ t.nodes c.length) (by have := hT.1; omega) h0 (by omega) hd (by rw [app_len]; omega) with ⟨er, g1, g2⟩ | ⟨b, k, e2, la2, g1, g2⟩
      · left
        rw [g2]
        exact ⟨er, g1, rfl⟩
      · rw [g2]
        unfold out
        simp only [Option.bind_some]
        have hcn2 := g1.cn
        rw [app_len] at hcn2 ⊢
        have hlen : (c ++ t.nodes c.length ++ b.nodes (c.length + t.n)).length = c.length + t.n + b.n := by rw [List.length_append, app_len, b.len]
        rcases node_r hl (a := k) (la := la2) (d := d) (c := c ++ t.nodes c.length ++ b.nodes (c.length + t.n)) (⟨4, ((c.length + t.n - 1 : Nat) : Int), ((c.length + t.n + b.n - 1 : Nat) : Int), R0, 0⟩ : api_Node) (by rw [hlen]; omega) with ⟨q1, q2⟩ | ⟨er, q1, q2⟩
        · rw [q2, hlen]
          rw [hlen] at q1
          simp only [Option.bind_some]
          have hR : Rv l 1 i d c (.and t b) k (max e e2) := ⟨.and1 h.gr hT g1.gr, by simp [Cd.wf, h.wf, g1.wf], ⟨h.vals, g1.vals⟩, by have := g1.de; omega, by simp only [Cd.n]; omega⟩
          have := ih i k (max e e2) (.and t b) la2 d c (by have := g1.gr.lt; omega) h0 hd hR
          simp only [Cd.nodes, Cd.top, Cd.n, ← List.append_assoc, show c.length + (t.n + b.n + 1) - 1 = c.length + t.n + b.n by omega] at this
          exact this
        · left
          rw [q2]
          exact ⟨er, q1, rfl⟩
theorem and_r (hp : RV l n p) {a : Nat} {la : api_Token} {d : Int} {c : Nods} (ha : a ≤ l.length) (h0 : 0 ≤ d) (h1 : d ≤ 64) (hd : 64 - d < n) (hc : c.length ≤ 1024) :
    Er (cond_reader__and_2.f p ⟨l, (a : Int), la, d, c⟩) ∨ ∃ t j e la', Rv l 1 a d c t j e ∧ sg l j 4 (⟨#[47, 92]⟩ : ByteArray) = false ∧ cond_reader__and_2.f p ⟨l, (a : Int), la, d, c⟩ = some (.inr (out c t j la' d)) := by
  unfold cond_reader__and_2.f cond_reader__chain_5.f
  rcases hp a la d c ha h0 h1 hd hc with ⟨er, g1, g2⟩ | ⟨t, j, e, la2, g1, g2⟩
  · left
    rw [g2]
    exact ⟨er, g1, rfl⟩
  · rw [g2]
    unfold out
    simp only [Option.bind_eq_bind, Option.bind_some]
    rcases and_l hl hp (r0 := ⟨l, (a : Int), la, d, c⟩) rfl (l.length - j) a j e t la2 d c (Nat.le_refl _) h0 hd ⟨.and0 g1.gr, g1.wf, g1.vals, g1.de, g1.cn⟩ with ⟨er, q1, q2⟩ | ⟨t', j', e', la', q1, q2, q3⟩
    · left
      rw [q2]
      exact ⟨er, q1, rfl⟩
    · right
      rw [q3]
      exact ⟨t', j', e', la', q1, q2, rfl⟩
theorem or_l (hp : RV l n p) {r0 : cond_reader} (hr0 : r0.l = l) : ∀ (m i j e : Nat) (t : Cd) (la : api_Token) (d : Int) (c : Nods), l.length - j ≤ m → 0 ≤ d → 64 - d < n → Rv l 2 i d c t j e →
    (∃ er, isP er = true ∧ cond_reader__chain_4.l0 p r0 (⟨#[92, 47]⟩ : ByteArray) 5 ((c.length + t.n - 1 : Nat) : Int) (j : Int) la d (c ++ t.nodes c.length) = some (.inr (.inl er))) ∨
    ∃ t' j' e' la', Rv l 2 i d c t' j' e' ∧ cond_reader__chain_4.l0 p r0 (⟨#[92, 47]⟩ : ByteArray) 5 ((c.length + t.n - 1 : Nat) : Int) (j : Int) la d (c ++ t.nodes c.length) = some (.inl (out c t' j' la' d)) := by
  intro m
  induction m with
  | zero =>
    intro i j e t la d c hm h0 hd h
    right
    have hs : sg l j 4 (⟨#[92, 47]⟩ : ByteArray) = false := by
      cases hs : sg l j 4 (⟨#[92, 47]⟩ : ByteArray)
      · rfl
      · have := (sg_ok hs).1; omega
    refine ⟨t, j, e, la, h, ?_⟩
    rw [cond_reader__chain_4.l0]
    dsimp only
    rw [hr0, sees0 hl _ _ h.gr.lt.2, hs]
    rfl
  | succ m ih =>
    intro i j e t la d c hm h0 hd h
    cases hs : sg l j 4 (⟨#[92, 47]⟩ : ByteArray)
    · right
      refine ⟨t, j, e, la, h, ?_⟩
      rw [cond_reader__chain_4.l0]
      dsimp only
      rw [hr0, sees0 hl _ _ h.gr.lt.2, hs]
      rfl
    · have hT := sg_ok hs
      have hcn := h.cn
      have hde := h.de
      have htn := t.n_pos
      rw [cond_reader__chain_4.l0]
      dsimp only
      rw [hr0, sees0 hl _ _ h.gr.lt.2, hs]
      simp only [Option.bind_eq_bind, Option.bind_some, if_true]
      rw [take_p hl hT.1]
      simp only [Option.bind_some]
      rcases and_r hl hp (a := j + 1) (la := gt l (j : Int)) (d := d) (c := c ++ t.nodes c.length) (by have := hT.1; omega) h0 (by omega) hd (by rw [app_len]; omega) with ⟨er, g1, g2⟩ | ⟨b, k, e2, la2, g1, gs, g2⟩
      · left
        rw [g2]
        exact ⟨er, g1, rfl⟩
      · rw [g2]
        unfold out
        simp only [Option.bind_some]
        have hcn2 := g1.cn
        rw [app_len] at hcn2 ⊢
        have hlen : (c ++ t.nodes c.length ++ b.nodes (c.length + t.n)).length = c.length + t.n + b.n := by rw [List.length_append, app_len, b.len]
        rcases node_r hl (a := k) (la := la2) (d := d) (c := c ++ t.nodes c.length ++ b.nodes (c.length + t.n)) (⟨5, ((c.length + t.n - 1 : Nat) : Int), ((c.length + t.n + b.n - 1 : Nat) : Int), R0, 0⟩ : api_Node) (by rw [hlen]; omega) with ⟨q1, q2⟩ | ⟨er, q1, q2⟩
        · rw [q2, hlen]
          rw [hlen] at q1
          simp only [Option.bind_some]
          have hR : Rv l 2 i d c (.or t b) k (max e e2) := ⟨.or1 h.gr hT g1.gr gs, by simp [Cd.wf, h.wf, g1.wf], ⟨h.vals, g1.vals⟩, by have := g1.de; omega, by simp only [Cd.n]; omega⟩
          have := ih i k (max e e2) (.or t b) la2 d c (by have := g1.gr.lt; omega) h0 hd hR
          simp only [Cd.nodes, Cd.top, Cd.n, ← List.append_assoc, show c.length + (t.n + b.n + 1) - 1 = c.length + t.n + b.n by omega] at this
          exact this
        · left
          rw [q2]
          exact ⟨er, q1, rfl⟩
theorem or_r (hp : RV l n p) {a : Nat} {la : api_Token} {d : Int} {c : Nods} (ha : a ≤ l.length) (h0 : 0 ≤ d) (h1 : d ≤ 64) (hd : 64 - d < n) (hc : c.length ≤ 1024) :
    Er (cond_reader__cond_2.f p ⟨l, (a : Int), la, d, c⟩) ∨ ∃ t j e la', Rv l 2 a d c t j e ∧ cond_reader__cond_2.f p ⟨l, (a : Int), la, d, c⟩ = some (.inr (out c t j la' d)) := by
  unfold cond_reader__cond_2.f cond_reader__chain_4.f
  rcases and_r hl hp (a := a) (la := la) (d := d) (c := c) ha h0 h1 hd hc with ⟨er, g1, g2⟩ | ⟨t, j, e, la2, g1, gs, g2⟩
  · left
    rw [g2]
    exact ⟨er, g1, rfl⟩
  · rw [g2]
    unfold out
    simp only [Option.bind_eq_bind, Option.bind_some]
    rcases or_l hl hp (r0 := ⟨l, (a : Int), la, d, c⟩) rfl (l.length - j) a j e t la2 d c (Nat.le_refl _) h0 hd ⟨.or0 g1.gr gs, g1.wf, g1.vals, g1.de, g1.cn⟩ with ⟨er, q1, q2⟩ | ⟨t', j', e', la', q1, q3⟩
    · left
      rw [q2]
      exact ⟨er, q1, rfl⟩
    · right
      rw [q3]
      exact ⟨t', j', e', la', q1, rfl⟩
def Vl (l : Toks) : Prop := ∀ i : Nat, i < l.length → -9223372036854775808 ≤ (gt l (i : Int)).Value ∧ (gt l (i : Int)).Value ≤ 9223372036854775807
theorem not_r (hv : Vl l) (hp : RV l n p) : RV l (n + 1) (cond_reader__not.body p) := by
  intro a la d c ha h0 h1 hd hc
  have fin : Er (cond_reader__is.f ⟨l, (a : Int), la, d, c⟩ >>= (fun | .inl pe33 => some (.inl pe33) | .inr (t24,t25,t26,t27) => some (.inr (t24,t25,t26,d,t27))) : Option Res) ∨ ∃ t j e la', Rv l 0 a d c t j e ∧ (cond_reader__is.f ⟨l, (a : Int), la, d, c⟩ >>= (fun | .inl pe33 => some (.inl pe33) | .inr (t24,t25,t26,t27) => some (.inr (t24,t25,t26,d,t27))) : Option Res) = some (.inr (out c t j la' d)) := by
    rcases is_r hl (la := la) (d := d) (c := c) ha hc with ⟨r, j, la', g1, g2, g3, g4, g5, g6, g7, g8⟩ | ⟨er, g1, g2⟩
    · right
      rw [g8]
      have hR : Rv l 0 a d c (.eq r (gt l ((j + 1 : Nat) : Int)).Value) (j + 2) 0 := ⟨.eqn g1 g4 g5 g6, by simp [Cd.wf, g2.1, g2.2, g3], hv _ g5, by omega, by simp only [Cd.n]; omega⟩
      exact ⟨_, _, _, la', hR, rfl⟩
    · left
      rw [g2]
      exact ⟨er, g1, rfl⟩
  unfold cond_reader__not.body
  dsimp only
  rw [sees0 hl _ _ ha, sees0 hl _ _ ha, sees0 hl _ _ ha, sees1 hl _ _ ha]
  simp only [Option.bind_eq_bind, Option.bind_some] at fin ⊢
  cases s1 : sg l a 4 (⟨#[126]⟩ : ByteArray)
  · simp only [Bool.false_eq_true, if_false]
    cases s2 : sg l a 4 (⟨#[40]⟩ : ByteArray)
    · simp only [Bool.false_eq_true, if_false]
      cases s3 : sg l a 1 (⟨#[116, 114, 117, 101]⟩ : ByteArray)
      · simp only [Bool.false_eq_true, if_false, Option.bind_some]
        exact fin
      · simp only [if_true]
        cases s4 : sg l (a + 1) 4 (⟨#[61]⟩ : ByteArray)
        · have hT := sg_ok s3
          simp only [Bool.not_false, if_true]
          rw [take_p hl hT.1]
          simp only [Option.bind_some]
          rcases node_r hl (a := a + 1) (la := gt l (a : Int)) (d := d) (c := c) (⟨1, 0, 0, R0, 0⟩ : api_Node) hc with ⟨q1, q2⟩ | ⟨er, q1, q2⟩
          · right
            rw [q2]
            have hR : Rv l 0 a d c .tru (a + 1) 0 := ⟨.tru hT s4, rfl, trivial, by omega, by simp only [Cd.n]; omega⟩
            exact ⟨_, _, _, gt l (a : Int), hR, rfl⟩
          · left
            rw [q2]
            exact ⟨er, q1, rfl⟩
        · simp only [Bool.not_true, Bool.false_eq_true, if_false, Option.bind_some]
          exact fin
    · have hT := sg_ok s2
      simp only [if_true]
      rcases opens_r hl (la := la) (c := c) hT.1 ⟨h0, h1⟩ with ⟨g1, g2⟩ | ⟨er, g1, g2⟩
      · rw [g2]
        simp only [Option.bind_some]
        rcases or_r hl hp (a := a + 1) (la := gt l (a : Int)) (d := d + 1) (c := c) (by have := hT.1; omega) (by omega) (by omega) (by omega) hc with ⟨er, q1, q2⟩ | ⟨t, j, e, la2, q1, q2⟩
        · left
          rw [q2]
          exact ⟨er, q1, rfl⟩
        · rw [q2]
          unfold out
          simp only [Option.bind_some]
          rcases sign_r hl (a := j) (la := la2) (d := d + 1) (c := c ++ t.nodes c.length) (⟨#[41]⟩ : ByteArray) q1.gr.lt.2 with ⟨z1, z2⟩ | ⟨er, z1, z2⟩
          · right
            rw [z2]
            simp only [Option.bind_some]
            rw [wi64_id (n := d + 1 - 1) (by omega) (by omega), show d + 1 - 1 = d by omega]
            have hR : Rv l 0 a d c t (j + 1) (e + 1) := ⟨.par hT q1.gr z1, q1.wf, q1.vals, by have := q1.de; omega, q1.cn⟩
            exact ⟨_, _, _, _, hR, rfl⟩
          · left
            rw [z2]
            exact ⟨er, z1, rfl⟩
      · left
        rw [g2]
        exact ⟨er, g1, rfl⟩
  · have hT := sg_ok s1
    simp only [if_true]
    rcases opens_r hl (la := la) (c := c) hT.1 ⟨h0, h1⟩ with ⟨g1, g2⟩ | ⟨er, g1, g2⟩
    · rw [g2]
      simp only [Option.bind_some]
      rcases hp (a + 1) (gt l (a : Int)) (d + 1) c (by have := hT.1; omega) (by omega) (by omega) (by omega) hc with ⟨er, q1, q2⟩ | ⟨t, j, e, la2, q1, q2⟩
      · left
        rw [q2]
        exact ⟨er, q1, rfl⟩
      · rw [q2]
        unfold out
        have hcn := q1.cn
        have htn := t.n_pos
        simp only [Option.bind_some]
        rw [wi64_id (n := d + 1 - 1) (by omega) (by omega), show d + 1 - 1 = d by omega]
        rcases node_r hl (a := j) (la := la2) (d := d) (c := c ++ t.nodes c.length) (⟨3, ((c.length + t.n - 1 : Nat) : Int), 0, R0, 0⟩ : api_Node) (by rw [app_len]; omega) with ⟨z1, z2⟩ | ⟨er, z1, z2⟩
        · right
          rw [z2]
          rw [app_len] at z1 ⊢
          have hR : Rv l 0 a d c (.not t) j (e + 1) := ⟨.not hT q1.gr, q1.wf, q1.vals, by have := q1.de; omega, by simp only [Cd.n]; omega⟩
          refine ⟨_, _, _, la2, hR, ?_⟩
          simp only [Option.bind_some, Cd.nodes, Cd.top, Cd.n, List.append_assoc]
          rw [show c.length + (t.n + 1) - 1 = c.length + t.n by omega]
        · left
          rw [z2]
          exact ⟨er, z1, rfl⟩
    · left
      rw [g2]
      exact ⟨er, g1, rfl⟩
theorem nots_r (hv : Vl l) : ∀ m : Nat, RV l (m : Int) (cond_reader__not.f m)
  | 0 => by intro a la d c ha h0 h1 hd hc; omega
  | m + 1 => by
    have := not_r hl hv (nots_r hv m)
    exact this
end
/-! ### The levels tell how deep -/
theorem bk_v (o : Int) (t : Cd) (s : Bool) : Cd.bk o t s = if o = 3 then decide (4 ≤ t.op) else if o = 4 then (decide (t.op = 5) || (decide (t.op = 4) && s)) else (decide (t.op = 5) && s) := by
  unfold Cd.bk br cond_bracketed.f
  have ho : t.op = 1 ∨ t.op = 2 ∨ t.op = 3 ∨ t.op = 4 ∨ t.op = 5 := by cases t <;> simp [Cd.op]
  by_cases h3 : o = 3
  · subst h3
    rcases ho with ho | ho | ho | ho | ho <;> rw [ho] <;> rfl
  · by_cases h4 : o = 4
    · subst h4
      rcases ho with ho | ho | ho | ho | ho <;> rw [ho] <;> cases s <;> rfl
    · have e3 : (o == 3) = false := by simp [h3]
      have e4 : (o == 4) = false := by simp [h4]
      rw [e3, e4, if_neg h3, if_neg h4]
      rcases ho with ho | ho | ho | ho | ho <;> rw [ho] <;> cases s <;> rfl
theorem op_n (a : Cd) : (Cd.not a).op = 3 := rfl
theorem op_a (a b : Cd) : (Cd.and a b).op = 4 := rfl
theorem op_o (a b : Cd) : (Cd.or a b).op = 5 := rfl
theorem gr_dep {l : Toks} {v : Nat} {t : Cd} {i j e : Nat} (h : Gr l v t i j e) : t.dep + (if (v = 0 ∧ 4 ≤ t.op) ∨ (v = 1 ∧ t.op = 5) then 1 else 0) ≤ e := by
  induction h with
  | eqn h h1 h2 h3 => simp [Cd.dep, Cd.op]
  | tru h h1 => simp [Cd.dep, Cd.op]
  | @not a i j d h ha ih =>
    simp only [Cd.dep, op_n, op_a, op_o, bk_v] at ih ⊢
    by_cases h4 : 4 ≤ a.op
    · simp [h4] at ih ⊢; omega
    · simp [h4] at ih ⊢; omega
  | par h ha h1 ih =>
    split <;> omega
  | @and0 a i j d ha ih =>
    by_cases h4 : 4 ≤ a.op
    · simp [h4] at ih; split <;> omega
    · rw [if_neg (by omega)]; omega
  | @and1 a b i j k d e ha h hb ih1 ih2 =>
    simp only [Cd.dep, op_n, op_a, op_o, bk_v] at ih1 ih2 ⊢
    have ho : b.op = 1 ∨ b.op = 2 ∨ b.op = 3 ∨ b.op = 4 ∨ b.op = 5 := by cases b <;> simp [Cd.op]
    by_cases ha5 : a.op = 5
    · rcases ho with ho | ho | ho | ho | ho <;> simp [ha5, ho] at ih1 ih2 ⊢ <;> omega
    · rcases ho with ho | ho | ho | ho | ho <;> simp [ha5, ho] at ih1 ih2 ⊢ <;> omega
  | or0 ha h ih => rw [if_neg (by omega)]; omega
  | @or1 a b i j k d e ha h hb h1 ih1 ih2 =>
    simp only [Cd.dep, op_n, op_a, op_o, bk_v] at ih1 ih2 ⊢
    by_cases hb5 : b.op = 5
    · simp [hb5] at ih1 ih2 ⊢; omega
    · simp [hb5] at ih1 ih2 ⊢; omega
theorem gr_last {l : Toks} {v : Nat} {t : Cd} {i j e : Nat} (h : Gr l v t i j e) : (gt l ((j - 1 : Nat) : Int)).Kind ≠ 0 := by
  induction h with
  | @eqn r i j h h1 h2 h3 => rw [show j + 2 - 1 = j + 1 by omega, h3]; decide
  | @tru i h h1 => rw [show i + 1 - 1 = i by omega, h.2.1]; decide
  | not h ha ih => exact ih
  | @par a i j d h ha h1 ih => rw [show j + 1 - 1 = j by omega, h1.2.1]; decide
  | and0 ha ih => exact ih
  | and1 ha h hb ih1 ih2 => exact ih2
  | or0 ha h ih => exact ih
  | or1 ha h hb h1 ih1 ih2 => exact ih2
/-! ### What Parse answers -/
theorem wrap_b (x : Int) : -9223372036854775808 ≤ IntKind.i64.wrap x ∧ IntKind.i64.wrap x ≤ 9223372036854775807 := by
  simp [IntKind.wrap, IntKind.bits, IntKind.signed]; omega
theorem numP_b (x : ByteArray) : -9223372036854775808 ≤ (numP x).1 ∧ (numP x).1 ≤ 9223372036854775807 := by
  have z : (-9223372036854775808 : Int) ≤ 0 ∧ (0 : Int) ≤ 9223372036854775807 := by decide
  have hN : -9223372036854775808 ≤ (numN x).1 ∧ (numN x).1 ≤ 9223372036854775807 := by
    unfold numN
    by_cases h1 : (numV x).2.2 = (if isHex x = true then 2 else 0)
    · rw [if_pos h1]; exact z
    · rw [if_neg h1]
      by_cases h2 : (numV x).2.1 = true ∨ (ofs x = 1 ∧ 9223372036854775808 < (numV x).1)
      · rw [if_pos h2]; exact z
      · rw [if_neg h2]; exact wrap_b _
  unfold numP
  split
  · exact ⟨by show (-9223372036854775808 : Int) ≤ 0; decide, by show (0 : Int) ≤ 9223372036854775807; decide⟩
  · split
    · exact ⟨by show (-9223372036854775808 : Int) ≤ 0; decide, by show (0 : Int) ≤ 9223372036854775807; decide⟩
    · exact hN
theorem tkE_v {s : ByteArray} {a : Nat} {k : Int} {t : ByteArray} {v : Int} {e : Nat} (h : tkE s a = .inr (k, t, v, e)) : -9223372036854775808 ≤ v ∧ v ≤ 9223372036854775807 := by
  unfold tkE at h
  repeat' (split at h)
  all_goals first
    | (cases h; done)
    | (cases h; exact numP_b _)
    | (cases h; exact ⟨by decide, by decide⟩)
theorem nxE_v {s : ByteArray} {a : Nat} {t : api_Token} {e : Nat} (h : nxE s a = .inr (t, e)) : -9223372036854775808 ≤ t.Value ∧ t.Value ≤ 9223372036854775807 := by
  unfold nxE at h
  split at h
  · cases h
  · split at h
    · cases h; exact ⟨by show (-9223372036854775808 : Int) ≤ 0; decide, by show (0 : Int) ≤ 9223372036854775807; decide⟩
    · split at h
      · cases h
      · rename_i hx
        cases h
        exact tkE_v hx
theorem tks_v (s : ByteArray) : ∀ (n a : Nat), ∀ t ∈ (tks s n a).1, -9223372036854775808 ≤ t.Value ∧ t.Value ≤ 9223372036854775807
  | 0, a, t, h => by simp [tks] at h
  | n + 1, a, t, h => by
    rw [tks_s] at h
    split at h
    · simp at h
    · rename_i u e hx
      split at h
      · simp at h
      · rcases List.mem_cons.1 h with rfl | h
        · exact nxE_v hx
        · exact tks_v s n e t h
theorem parse_inv (s : ByteArray) : (∃ e, PErr.isNil e = false ∧ cond_Parse.f s = some ([], e)) ∨ ∃ t : Cd, t.wf = true ∧ t.vals ∧ t.n ≤ 1024 ∧ t.dep ≤ 64 ∧ cond_Parse.f s = some (t.nodes 0, .nil) := by
  unfold cond_Parse.f
  by_cases hs : s.size ≤ 1048576
  · obtain ⟨hl, hb⟩ := tks_b s hs
    rw [all_p s hs]
    simp only [Option.bind_eq_bind, Option.bind_some]
    cases hB : tB s with
    | some x =>
      left
      obtain ⟨c, p⟩ := x
      simp only [nilP, Bool.not_false, if_true]
      exact ⟨_, rfl, rfl⟩
    | none =>
      simp only [nilN, Bool.not_true, Bool.false_eq_true, if_false]
      rw [place_p s hs s.size (Nat.le_refl _)]
      simp only [Option.bind_some]
      generalize hen : (⟨0, (⟨#[]⟩ : ByteArray), 0, (plc s s.size).1, (plc s s.size).2, (s.size : Int), (s.size : Int)⟩ : api_Token) = en
      rw [if_pos (by rw [List.length_singleton]; omega)]
      have hVl : Vl (tT s ++ [en]) := by
        intro i hi
        rw [gt_nat hi]
        have hm := List.getElem_mem hi
        generalize (tT s ++ [en])[i] = x at hm
        rcases List.mem_append.1 hm with hm | hm
        · exact tks_v s _ _ x hm
        · rw [List.mem_singleton.1 hm, ← hen]
          exact (by decide : (-9223372036854775808 : Int) ≤ 0 ∧ (0 : Int) ≤ 9223372036854775807)
      have hLl : (tT s ++ [en]).length ≤ 2199023255552 := by rw [List.length_append, List.length_singleton]; omega
      have hlast : (gt (tT s ++ [en]) (((tT s ++ [en]).length - 1 : Nat) : Int)).Kind = 0 := by
        rw [gt_nat (by rw [List.length_append, List.length_singleton]; omega)]
        have : (tT s ++ [en])[(tT s ++ [en]).length - 1]'(by rw [List.length_append, List.length_singleton]; omega) = en := by simp
        rw [this, ← hen]
      generalize tT s ++ [en] = L at hVl hLl hlast
      unfold cond_Take.f
      rw [if_neg (by decide), if_neg (nt (decide_eq_false (by omega)))]
      rcases or_r hLl (nots_r hLl hVl fuelN) (a := 0) (la := (⟨0, (⟨#[]⟩ : ByteArray), 0, 0, 0, 0, 0⟩ : api_Token)) (d := 0) (c := []) (Nat.zero_le _) (by decide) (by decide) (by have := fuelN_ge; omega) (by simp) with ⟨er, q1, q2⟩ | ⟨t, j, e, la2, q1, q2⟩
      · left
        rw [show (((0 : Nat)) : Int) = 0 from rfl] at q2
        rw [q2]
        unfold cond_Take_1.f
        simp only [Option.bind_eq_bind, Option.bind_some]
        cases er with
        | nil => cases q1
        | num x => cases q1
        | pos x y z => exact ⟨.pos x y z, rfl, rfl⟩
      · rw [show (((0 : Nat)) : Int) = 0 from rfl] at q2
        rw [q2]
        unfold out cond_Take_1_1.f
        simp only [Option.bind_eq_bind, Option.bind_some, nilN, Bool.not_true, Bool.false_eq_true, if_false]
        have hlt := q1.gr.lt
        by_cases hj : j < L.length
        · rw [if_pos (by omega)]
          by_cases hk : (gt L (j : Int)).Kind = 0
          · right
            rw [if_neg (by simp [hk])]
            have hd := gr_dep q1.gr
            have hde := q1.de
            have hcn := q1.cn
            simp only [List.length_nil, Nat.zero_add] at hcn
            exact ⟨t, q1.wf, q1.vals, hcn, by omega, rfl⟩
          · left
            rw [if_pos (by rw [bne_iff_ne]; exact hk)]
            exact ⟨_, rfl, rfl⟩
        · exfalso
          have he : j = L.length := by omega
          subst he
          exact gr_last q1.gr hlast
  · left
    rw [all_long s (by omega)]
    simp only [Option.bind_eq_bind, Option.bind_some, nilM, Bool.not_false, if_true]
    exact ⟨_, rfl, rfl⟩
end Go.Proofs.YtboejepakdnbgaaGreatDoor.K.C
