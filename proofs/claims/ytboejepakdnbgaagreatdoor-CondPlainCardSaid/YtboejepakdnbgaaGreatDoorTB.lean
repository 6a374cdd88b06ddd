/- The grammar of conditions, and that the program's reader reads by it. -/
import Derived.Test.YtboejepakdnbgaaGreatDoorTA
import Derived.Test.YtboejepakdnbgaaGreatDoorZB
set_option linter.unusedVariables false
set_option linter.unusedSectionVars false
set_option linter.unusedSimpArgs false
set_option maxRecDepth 100000
namespace Go.Proofs.YtboejepakdnbgaaGreatDoor.K.C
open Go

def T (l : Toks) (i : Nat) (k : Int) (s : ByteArray) : Prop := i < l.length ∧ (gt l (i : Int)).Kind = k ∧ (gt l (i : Int)).Text = s
def Nm (l : Toks) (i : Nat) (s : ByteArray) : Prop := T l i 1 s ∧ isName s = true
inductive Rf (l : Toks) : api_Ref → Nat → Nat → Prop
  | nm {i : Nat} {s : ByteArray} (h : Nm l i s) : Rf l ⟨-1, s⟩ i (i + 1)
  | br {i : Nat} {s : ByteArray} (h0 : T l i 4 (⟨#[91]⟩ : ByteArray)) (h : Nm l (i + 1) s) (h2 : T l (i + 2) 4 (⟨#[93]⟩ : ByteArray)) : Rf l ⟨-1, s⟩ i (i + 3)
  | th {i n : Nat} {x s : ByteArray} (h0 : T l i 2 x) (hn : thr x = some n) (h1 : T l (i + 1) 4 (⟨#[58]⟩ : ByteArray)) (h : Nm l (i + 2) s) : Rf l ⟨(n : Int), s⟩ i (i + 3)
inductive Gr (l : Toks) : Nat → Cd → Nat → Nat → Nat → Prop
  | eqn {r : api_Ref} {i j : Nat} (h : Rf l r i j) (h1 : T l j 4 (⟨#[61]⟩ : ByteArray)) (h2 : j + 1 < l.length) (h3 : (gt l ((j + 1 : Nat) : Int)).Kind = 2) : Gr l 0 (.eq r (gt l ((j + 1 : Nat) : Int)).Value) i (j + 2) 0
  | tru {i : Nat} (h : T l i 1 (⟨#[116, 114, 117, 101]⟩ : ByteArray)) (h1 : sg l (i + 1) 4 (⟨#[61]⟩ : ByteArray) = false) : Gr l 0 .tru i (i + 1) 0
  | not {a : Cd} {i j d : Nat} (h : T l i 4 (⟨#[126]⟩ : ByteArray)) (ha : Gr l 0 a (i + 1) j d) : Gr l 0 (.not a) i j (d + 1)
  | par {a : Cd} {i j d : Nat} (h : T l i 4 (⟨#[40]⟩ : ByteArray)) (ha : Gr l 2 a (i + 1) j d) (h1 : T l j 4 (⟨#[41]⟩ : ByteArray)) : Gr l 0 a i (j + 1) (d + 1)
  | and0 {a : Cd} {i j d : Nat} (ha : Gr l 0 a i j d) : Gr l 1 a i j d
  | and1 {a b : Cd} {i j k d e : Nat} (ha : Gr l 1 a i j d) (h : T l j 4 (⟨#[47, 92]⟩ : ByteArray)) (hb : Gr l 0 b (j + 1) k e) : Gr l 1 (.and a b) i k (max d e)
  | or0 {a : Cd} {i j d : Nat} (ha : Gr l 1 a i j d) (h : sg l j 4 (⟨#[47, 92]⟩ : ByteArray) = false) : Gr l 2 a i j d
  | or1 {a b : Cd} {i j k d e : Nat} (ha : Gr l 2 a i j d) (h : T l j 4 (⟨#[92, 47]⟩ : ByteArray)) (hb : Gr l 1 b (j + 1) k e) (h1 : sg l k 4 (⟨#[47, 92]⟩ : ByteArray) = false) : Gr l 2 (.or a b) i k (max d e)
section
variable {l : Toks}
theorem sg_T {i : Nat} {k : Int} {s : ByteArray} (h : T l i k s) : sg l i k s = true := by
  unfold sg
  simp [h.1, h.2.1, h.2.2]
theorem sg_k {i : Nat} {k : Int} {s : ByteArray} (h : (gt l (i : Int)).Kind ≠ k) : sg l i k s = false := by
  unfold sg
  simp [h]
theorem sg_t {i : Nat} {k : Int} {s : ByteArray} (h : (gt l (i : Int)).Text ≠ s) : sg l i k s = false := by
  unfold sg
  simp [h]
theorem Gr.lt {v : Nat} {t : Cd} {i j d : Nat} (h : Gr l v t i j d) : i < j ∧ j ≤ l.length := by
  induction h with
  | eqn h h1 h2 h3 => cases h <;> omega
  | tru h h1 => exact ⟨by omega, h.1⟩
  | not h ha ih => omega
  | par h ha h1 ih => have := h1.1; omega
  | and0 ha ih => exact ih
  | and1 ha h hb ih1 ih2 => omega
  | or0 ha h ih => exact ih
  | or1 ha h hb h1 ih1 ih2 => omega
variable (hl : l.length ≤ 2199023255552)
include hl
variable {la : api_Token} {d : Int} {c : Nods}
theorem sign_T {a : Nat} {s : ByteArray} (h : T l a 4 s) : cond_reader__sign.f ⟨l, (a : Int), la, d, c⟩ s = some (.inr (((a + 1 : Nat) : Int), gt l (a : Int))) := by
  unfold cond_reader__sign.f
  dsimp only
  have e := sees_p (l := l) (la := la) (d := d) (c := c) 0 4 s hl (Nat.le_of_lt h.1) (by decide)
  rw [show (((0 : Nat)) : Int) = 0 from rfl] at e
  rw [e, Nat.add_zero, sg_T h]
  simp only [Option.bind_eq_bind, Option.bind_some, Bool.not_true, Bool.false_eq_true, if_false, take_p hl h.1]
theorem name_T {a : Nat} {s : ByteArray} (h : Nm l a s) : cond_reader__name.f ⟨l, (a : Int), la, d, c⟩ = some (.inr (s, ((a + 1 : Nat) : Int), gt l (a : Int))) := by
  obtain ⟨⟨h1, h2, h3⟩, h4⟩ := h
  unfold cond_reader__name.f
  dsimp only
  rw [next_p, if_pos h1]
  simp only [Option.bind_eq_bind, Option.bind_some, Bool.not_true, Bool.false_eq_true, if_false]
  rw [if_neg (by simp [h2]), name_p, h3, h4]
  simp only [Option.bind_some, Bool.not_true, Bool.false_eq_true, if_false, take_p hl h1, h3]
theorem node_T {a : Nat} (x : api_Node) (hc : c.length < 1024) : cond_reader__node.f ⟨l, (a : Int), la, d, c⟩ x = some (.inr ((c.length : Int), c ++ [x])) := by
  unfold cond_reader__node.f
  dsimp only
  have e : ¬ (((c.length : Nat) : Int) == 1024) = true := by simp; omega
  rw [if_neg e, if_pos (by simp only [List.length_singleton]; omega)]
  rw [show (((c ++ ([x] : Nods)).length : Nat) : Int) - 1 = (c.length : Int) by simp, wi64_id (by omega) (by omega)]
theorem opens_T {a : Nat} (h : a < l.length) (h0 : 0 ≤ d ∧ d < 64) : cond_reader__opens.f ⟨l, (a : Int), la, d, c⟩ = some (.inr (((a + 1 : Nat) : Int), gt l (a : Int), d + 1)) := by
  unfold cond_reader__opens.f
  dsimp only
  have hw : IntKind.i64.wrap (d + 1) = d + 1 := wi64_id (by omega) (by omega)
  rw [if_neg (by simp; omega), hw, take_p hl h]
  rfl
theorem ref_T {r : api_Ref} {i j : Nat} (h : Rf l r i j) : ∃ la', cond_reader__ref.f ⟨l, (i : Int), la, d, c⟩ = some (.inr (r, (j : Int), la')) := by
  unfold cond_reader__ref.f
  dsimp only
  have e := fun (h : i ≤ l.length) => sees_p (l := l) (a := i) (la := la) (d := d) (c := c) 0 4 (⟨#[91]⟩ : ByteArray) hl h (by decide)
  simp only [show (((0 : Nat)) : Int) = 0 from rfl, Nat.add_zero] at e
  cases h with
  | nm h =>
    have h1 := h.1
    rw [e (Nat.le_of_lt h1.1), sg_k (by rw [h1.2.1]; decide)]
    simp only [Option.bind_eq_bind, Option.bind_some, Bool.false_eq_true, if_false]
    rw [next_p, if_pos h1.1]
    simp only [Option.bind_some, if_true]
    rw [if_neg (by rw [h1.2.1]; decide)]
    simp only [Option.bind_some]
    rw [name_T hl h]
    exact ⟨_, rfl⟩
  | br h0 h h2 =>
    rw [e (Nat.le_of_lt h0.1), sg_T h0]
    simp only [Option.bind_eq_bind, Option.bind_some, if_true]
    rw [take_p hl h0.1]
    simp only [Option.bind_some]
    rw [name_T hl h]
    simp only [Option.bind_some]
    rw [sign_T hl h2]
    exact ⟨_, rfl⟩
  | th h0 hn h1 h =>
    rw [e (Nat.le_of_lt h0.1), sg_k (by rw [h0.2.1]; decide)]
    simp only [Option.bind_eq_bind, Option.bind_some, Bool.false_eq_true, if_false]
    rw [next_p, if_pos h0.1]
    simp only [Option.bind_some, if_true]
    rw [if_pos (by rw [h0.2.1]; decide), thread_p, h0.2.2, hn]
    simp only [Option.bind_some, if_true]
    rw [take_p hl h0.1]
    simp only [Option.bind_some]
    rw [sign_T hl h1]
    simp only [Option.bind_some]
    rw [name_T hl h]
    exact ⟨_, rfl⟩
theorem is_T {r : api_Ref} {i j : Nat} (h : Rf l r i j) (h1 : T l j 4 (⟨#[61]⟩ : ByteArray)) (h2 : j + 1 < l.length) (h3 : (gt l ((j + 1 : Nat) : Int)).Kind = 2) (hc : c.length < 1024) :
    ∃ la', cond_reader__is.f ⟨l, (i : Int), la, d, c⟩ = some (.inr ((c.length : Int), ((j + 2 : Nat) : Int), la', c ++ [(⟨2, 0, 0, r, (gt l ((j + 1 : Nat) : Int)).Value⟩ : api_Node)])) := by
  unfold cond_reader__is.f
  dsimp only
  obtain ⟨la1, e1⟩ := ref_T hl (la := la) (d := d) (c := c) h
  rw [e1]
  simp only [Option.bind_eq_bind, Option.bind_some]
  rw [sign_T hl h1]
  simp only [Option.bind_some]
  rw [next_p, if_pos h2]
  simp only [Option.bind_some, Bool.not_true, Bool.false_eq_true, if_false]
  rw [if_neg (by rw [h3]; decide), take_p hl h2]
  simp only [Option.bind_some]
  rw [node_T hl _ hc]
  exact ⟨_, rfl⟩
end
def stA (rec : cond_reader → Option (Sum PErr (Int × Int × api_Token × Int × (List api_Node)))) (r : cond_reader) : Option (Sum (Int × Int × api_Token × Int × (List api_Node)) (Sum PErr (Int × Int × api_Token × Int × (List api_Node)))) :=
  Option.bind (rec r) fun | .inl pe => some (.inr (.inl pe)) | .inr (t1, t2, t3, t4, t5) => cond_reader__chain_5.l0 rec r (⟨#[47, 92]⟩ : ByteArray) 4 t1 t2 t3 t4 t5
def stO (rec : cond_reader → Option (Sum PErr (Int × Int × api_Token × Int × (List api_Node)))) (r : cond_reader) : Option (Sum (Int × Int × api_Token × Int × (List api_Node)) (Sum PErr (Int × Int × api_Token × Int × (List api_Node)))) :=
  Option.bind (cond_reader__and_2.f rec r) fun | .inl pe => some (.inr (.inl pe)) | .inr (t1, t2, t3, t4, t5) => cond_reader__chain_4.l0 rec r (⟨#[92, 47]⟩ : ByteArray) 5 t1 t2 t3 t4 t5
theorem and_st (rec : cond_reader → Option (Sum PErr (Int × Int × api_Token × Int × (List api_Node)))) (r : cond_reader) {s : Int × Int × api_Token × Int × (List api_Node)} (h : stA rec r = some (.inl s)) : cond_reader__and_2.f rec r = some (.inr s) := by
  unfold stA at h
  unfold cond_reader__and_2.f cond_reader__chain_5.f
  cases hr : rec r with
  | none => rw [hr] at h; cases h
  | some x =>
    rw [hr] at h
    rcases x with pe | ⟨t1, t2, t3, t4, t5⟩
    · cases h
    · simp only [Option.bind_some] at h
      simp only [Option.bind_eq_bind, Option.bind_some, h]
theorem or_st (rec : cond_reader → Option (Sum PErr (Int × Int × api_Token × Int × (List api_Node)))) (r : cond_reader) {s : Int × Int × api_Token × Int × (List api_Node)} (h : stO rec r = some (.inl s)) : cond_reader__cond_2.f rec r = some (.inr s) := by
  unfold stO at h
  unfold cond_reader__cond_2.f cond_reader__chain_4.f
  cases hr : cond_reader__and_2.f rec r with
  | none => rw [hr] at h; cases h
  | some x =>
    rw [hr] at h
    rcases x with pe | ⟨t1, t2, t3, t4, t5⟩
    · cases h
    · simp only [Option.bind_some] at h
      simp only [Option.bind_eq_bind, Option.bind_some, h]
def PS (l : Toks) : Nat → Cd → Nat → Nat → Nat → Prop
  | 0, t, i, j, e => ∀ (n : Nat) (la : api_Token) (d : Int) (c : Nods), e < n → 0 ≤ d → d + (e : Int) ≤ 64 → c.length + t.n ≤ 1024 →
      ∃ la', cond_reader__not.f n ⟨l, (i : Int), la, d, c⟩ = some (.inr (((c.length + t.n - 1 : Nat) : Int), (j : Int), la', d, c ++ t.nodes c.length))
  | 1, t, i, j, e => ∀ (n : Nat) (la : api_Token) (d : Int) (c : Nods), e < n → 0 ≤ d → d + (e : Int) ≤ 64 → c.length + t.n ≤ 1024 →
      ∃ la', stA (cond_reader__not.f n) ⟨l, (i : Int), la, d, c⟩ = cond_reader__chain_5.l0 (cond_reader__not.f n) ⟨l, (i : Int), la, d, c⟩ (⟨#[47, 92]⟩ : ByteArray) 4 ((c.length + t.n - 1 : Nat) : Int) (j : Int) la' d (c ++ t.nodes c.length)
  | _, t, i, j, e => ∀ (n : Nat) (la : api_Token) (d : Int) (c : Nods), e < n → 0 ≤ d → d + (e : Int) ≤ 64 → c.length + t.n ≤ 1024 →
      ∃ la', stO (cond_reader__not.f n) ⟨l, (i : Int), la, d, c⟩ = cond_reader__chain_4.l0 (cond_reader__not.f n) ⟨l, (i : Int), la, d, c⟩ (⟨#[92, 47]⟩ : ByteArray) 5 ((c.length + t.n - 1 : Nat) : Int) (j : Int) la' d (c ++ t.nodes c.length)
theorem app_len (c : Nods) (t : Cd) : (c ++ t.nodes c.length).length = c.length + t.n := by rw [List.length_append, t.len]
theorem parse {l : Toks} (hl : l.length ≤ 2199023255552) {v : Nat} {t : Cd} {i j e : Nat} (h : Gr l v t i j e) : PS l v t i j e := by
  have at0 : ∀ {c : Nods} {la : api_Token} {d : Int} {a : Nat} (k : Int) (s : ByteArray), a ≤ l.length → cond_reader__sees.f ⟨l, (a : Int), la, d, c⟩ 0 k s = some (sg l a k s) := by
    intro c la d a k s ha
    have := sees_p (l := l) (a := a) (la := la) (d := d) (c := c) 0 k s hl ha (by decide)
    simpa using this
  have at1 : ∀ {c : Nods} {la : api_Token} {d : Int} {a : Nat} (k : Int) (s : ByteArray), a ≤ l.length → cond_reader__sees.f ⟨l, (a : Int), la, d, c⟩ 1 k s = some (sg l (a + 1) k s) := by
    intro c la d a k s ha
    have := sees_p (l := l) (a := a) (la := la) (d := d) (c := c) 1 k s hl ha (by decide)
    simpa using this
  induction h with
  | @eqn r i j h h1 h2 h3 =>
    intro n la d c hn h0 hd hc
    obtain ⟨m, rfl⟩ : ∃ m, n = m + 1 := ⟨n - 1, by omega⟩
    have hi : i ≤ l.length := by cases h <;> omega
    have hk : (gt l (i : Int)).Kind = 1 ∧ j = i + 1 ∨ (gt l (i : Int)).Kind = 2 ∨ T l i 4 (⟨#[91]⟩ : ByteArray) := by
      cases h with
      | nm h => exact .inl ⟨h.1.2.1, rfl⟩
      | br h0 h h2 => exact .inr (.inr h0)
      | th h0 hn h1 h => exact .inr (.inl h0.2.1)
    show ∃ la', cond_reader__not.body (cond_reader__not.f m) ⟨l, (i : Int), la, d, c⟩ = _
    unfold cond_reader__not.body
    dsimp only
    have s1 : sg l i 4 (⟨#[126]⟩ : ByteArray) = false := by
      rcases hk with ⟨h, -⟩ | h | h
      · exact sg_k (by rw [h]; decide)
      · exact sg_k (by rw [h]; decide)
      · exact sg_t (by rw [h.2.2]; decide)
    have s2 : sg l i 4 (⟨#[40]⟩ : ByteArray) = false := by
      rcases hk with ⟨h, -⟩ | h | h
      · exact sg_k (by rw [h]; decide)
      · exact sg_k (by rw [h]; decide)
      · exact sg_t (by rw [h.2.2]; decide)
    have s3 : sg l i 1 (⟨#[116, 114, 117, 101]⟩ : ByteArray) = true → sg l (i + 1) 4 (⟨#[61]⟩ : ByteArray) = true := by
      intro hs
      rcases hk with ⟨h, rfl⟩ | h | h
      · exact sg_T h1
      · rw [sg_k (by rw [h]; decide)] at hs; cases hs
      · rw [sg_k (by rw [h.2.1]; decide)] at hs; cases hs
    have hcl : c.length < 1024 := by simp only [Cd.n] at hc; omega
    obtain ⟨la', e1⟩ := is_T hl (la := la) (d := d) (c := c) h h1 h2 h3 hcl
    refine ⟨la', ?_⟩
    simp only [at0 _ _ hi, at1 _ _ hi, s1, s2, Option.bind_eq_bind, Option.bind_some, Bool.false_eq_true, if_false]
    have fin : (cond_reader__is.f ⟨l, (i : Int), la, d, c⟩ >>= fun | .inl pe => some (.inl pe) | .inr (t24, t25, t26, t27) => some (.inr (t24, t25, t26, d, t27)) : Option (Sum PErr (Int × Int × api_Token × Int × (List api_Node)))) = some (.inr (((c.length + 1 - 1 : Nat) : Int), ((j + 2 : Nat) : Int), la', d, c ++ [(⟨2, 0, 0, r, (gt l ((j + 1 : Nat) : Int)).Value⟩ : api_Node)])) := by
      rw [e1]; rfl
    simp only [Option.bind_eq_bind] at fin
    cases hs : sg l i 1 (⟨#[116, 114, 117, 101]⟩ : ByteArray)
    · simp only [Bool.false_eq_true, if_false, Option.bind_some]
      exact fin
    · simp only [if_true, s3 hs, Bool.not_true, Bool.false_eq_true, if_false, Option.bind_some]
      exact fin
  | @tru i h h1 =>
    intro n la d c hn h0 hd hc
    obtain ⟨m, rfl⟩ : ∃ m, n = m + 1 := ⟨n - 1, by omega⟩
    have hi : i ≤ l.length := Nat.le_of_lt h.1
    show ∃ la', cond_reader__not.body (cond_reader__not.f m) ⟨l, (i : Int), la, d, c⟩ = _
    unfold cond_reader__not.body
    dsimp only
    have hcl : c.length < 1024 := by simp only [Cd.n] at hc; omega
    simp only [at0 _ _ hi, at1 _ _ hi, sg_k (l := l) (i := i) (k := 4) (by rw [h.2.1]; decide), sg_T h, h1, Option.bind_eq_bind, Option.bind_some, Bool.false_eq_true, if_false, if_true, Bool.not_false]
    rw [take_p hl h.1]
    simp only [Option.bind_some]
    rw [node_T hl _ hcl]
    exact ⟨_, rfl⟩
  | @not a i j e h ha ih =>
    intro n la d c hn h0 hd hc
    obtain ⟨m, rfl⟩ : ∃ m, n = m + 1 := ⟨n - 1, by omega⟩
    have hi : i ≤ l.length := Nat.le_of_lt h.1
    have han := a.n_pos
    simp only [Cd.n] at hc
    show ∃ la', cond_reader__not.body (cond_reader__not.f m) ⟨l, (i : Int), la, d, c⟩ = _
    unfold cond_reader__not.body
    dsimp only
    simp only [at0 _ _ hi, sg_T h, Option.bind_eq_bind, Option.bind_some, if_true]
    rw [opens_T hl h.1 ⟨h0, by omega⟩]
    simp only [Option.bind_some]
    obtain ⟨la', e1⟩ := ih m (gt l (i : Int)) (d + 1) c (by omega) (by omega) (by omega) (by omega)
    rw [e1]
    simp only [Option.bind_some]
    rw [wi64_id (n := d + 1 - 1) (by omega) (by omega), show d + 1 - 1 = d by omega, node_T hl _ (by rw [app_len]; omega), app_len]
    refine ⟨la', ?_⟩
    simp only [Option.bind_some, Cd.nodes, Cd.top, Cd.n, List.append_assoc]
    rw [show c.length + (a.n + 1) - 1 = c.length + a.n by omega]
  | @par a i j e h ha h1 ih =>
    intro n la d c hn h0 hd hc
    obtain ⟨m, rfl⟩ : ∃ m, n = m + 1 := ⟨n - 1, by omega⟩
    have hi : i ≤ l.length := Nat.le_of_lt h.1
    show ∃ la', cond_reader__not.body (cond_reader__not.f m) ⟨l, (i : Int), la, d, c⟩ = _
    unfold cond_reader__not.body
    dsimp only
    simp only [at0 _ _ hi, sg_T h, sg_t (l := l) (i := i) (k := 4) (s := (⟨#[126]⟩ : ByteArray)) (by rw [h.2.2]; decide), Option.bind_eq_bind, Option.bind_some, Bool.false_eq_true, if_false, if_true]
    rw [opens_T hl h.1 ⟨h0, by omega⟩]
    simp only [Option.bind_some]
    obtain ⟨la', e1⟩ := ih m (gt l (i : Int)) (d + 1) c (by omega) (by omega) (by omega) hc
    have e2 : cond_reader__chain_4.l0 (cond_reader__not.f m) ⟨l, ((i + 1 : Nat) : Int), gt l (i : Int), d + 1, c⟩ (⟨#[92, 47]⟩ : ByteArray) 5 ((c.length + a.n - 1 : Nat) : Int) (j : Int) la' (d + 1) (c ++ a.nodes c.length) = some (.inl (((c.length + a.n - 1 : Nat) : Int), (j : Int), la', d + 1, c ++ a.nodes c.length)) := by
      rw [cond_reader__chain_4.l0]
      dsimp only
      rw [at0 _ _ (Nat.le_of_lt h1.1), sg_t (by rw [h1.2.2]; decide)]
      rfl
    rw [or_st _ _ (e1.trans e2)]
    simp only [Option.bind_some]
    rw [sign_T hl h1]
    simp only [Option.bind_some]
    rw [wi64_id (n := d + 1 - 1) (by omega) (by omega), show d + 1 - 1 = d by omega]
    exact ⟨_, rfl⟩
  | and0 ha ih =>
    intro n la d c hn h0 hd hc
    obtain ⟨la', e1⟩ := ih n la d c hn h0 hd hc
    refine ⟨la', ?_⟩
    unfold stA
    rw [e1]; rfl
  | @and1 a b i j k d1 d2 ha h hb ih1 ih2 =>
    intro n la d c hn h0 hd hc
    have han := a.n_pos
    have hbn := b.n_pos
    simp only [Cd.n] at hc
    obtain ⟨la1, e1⟩ := ih1 n la d c (by omega) h0 (by omega) (by omega)
    obtain ⟨la2, e2⟩ := ih2 n (gt l (j : Int)) d (c ++ a.nodes c.length) (by omega) h0 (by omega) (by rw [app_len]; omega)
    refine ⟨la2, ?_⟩
    rw [e1, cond_reader__chain_5.l0]
    dsimp only
    rw [at0 _ _ (Nat.le_of_lt h.1), sg_T h]
    simp only [Option.bind_eq_bind, Option.bind_some, if_true]
    rw [take_p hl h.1]
    simp only [Option.bind_some]
    rw [e2]
    simp only [Option.bind_some]
    rw [app_len]
    have hlen : (c ++ a.nodes c.length ++ b.nodes (c.length + a.n)).length = c.length + a.n + b.n := by rw [List.length_append, app_len, b.len]
    rw [node_T hl _ (by rw [hlen]; omega), hlen]
    simp only [Option.bind_some, Cd.nodes, Cd.top, Cd.n, List.append_assoc]
    rw [show c.length + (a.n + b.n + 1) - 1 = c.length + a.n + b.n by omega]
  | @or0 a i j e ha h ih =>
    intro n la d c hn h0 hd hc
    obtain ⟨la', e1⟩ := ih n la d c hn h0 hd hc
    refine ⟨la', ?_⟩
    have e2 : cond_reader__chain_5.l0 (cond_reader__not.f n) ⟨l, (i : Int), la, d, c⟩ (⟨#[47, 92]⟩ : ByteArray) 4 ((c.length + a.n - 1 : Nat) : Int) (j : Int) la' d (c ++ a.nodes c.length) = some (.inl (((c.length + a.n - 1 : Nat) : Int), (j : Int), la', d, c ++ a.nodes c.length)) := by
      rw [cond_reader__chain_5.l0]
      dsimp only
      rw [at0 _ _ ha.lt.2, h]
      rfl
    unfold stO
    rw [and_st _ _ (e1.trans e2)]; rfl
  | @or1 a b i j k d1 d2 ha h hb h1 ih1 ih2 =>
    intro n la d c hn h0 hd hc
    have han := a.n_pos
    have hbn := b.n_pos
    simp only [Cd.n] at hc
    obtain ⟨la1, e1⟩ := ih1 n la d c (by omega) h0 (by omega) (by omega)
    obtain ⟨la2, e2⟩ := ih2 n (gt l (j : Int)) d (c ++ a.nodes c.length) (by omega) h0 (by omega) (by rw [app_len]; omega)
    have e3 : cond_reader__chain_5.l0 (cond_reader__not.f n) ⟨l, ((j + 1 : Nat) : Int), gt l (j : Int), d, c ++ a.nodes c.length⟩ (⟨#[47, 92]⟩ : ByteArray) 4 (((c ++ a.nodes c.length).length + b.n - 1 : Nat) : Int) (k : Int) la2 d (c ++ a.nodes c.length ++ b.nodes (c ++ a.nodes c.length).length) = some (.inl ((((c ++ a.nodes c.length).length + b.n - 1 : Nat) : Int), (k : Int), la2, d, c ++ a.nodes c.length ++ b.nodes (c ++ a.nodes c.length).length)) := by
      rw [cond_reader__chain_5.l0]
      dsimp only
      rw [at0 _ _ hb.lt.2, h1]
      rfl
    refine ⟨la2, ?_⟩
    rw [e1, cond_reader__chain_4.l0]
    dsimp only
    rw [at0 _ _ (Nat.le_of_lt h.1), sg_T h]
    simp only [Option.bind_eq_bind, Option.bind_some, if_true]
    rw [take_p hl h.1]
    simp only [Option.bind_some]
    rw [and_st _ _ (e2.trans e3)]
    simp only [Option.bind_some]
    rw [app_len]
    have hlen : (c ++ a.nodes c.length ++ b.nodes (c.length + a.n)).length = c.length + a.n + b.n := by rw [List.length_append, app_len, b.len]
    rw [node_T hl _ (by rw [hlen]; omega), hlen]
    simp only [Option.bind_some, Cd.nodes, Cd.top, Cd.n, List.append_assoc]
    rw [show c.length + (a.n + b.n + 1) - 1 = c.length + a.n + b.n by omega]
theorem take_T {l : Toks} (hl : l.length ≤ 2199023255552) {t : Cd} {i j e : Nat} (h : Gr l 2 t i j e) (ho : sg l j 4 (⟨#[92, 47]⟩ : ByteArray) = false) (he : e ≤ 64) (hn : t.n ≤ 1024) : cond_Take.f l (i : Int) = some (t.nodes 0, (j : Int), .nil) := by
  have hlt := h.lt
  unfold cond_Take.f
  rw [if_neg (nt (decide_eq_false (by omega))), if_neg (nt (decide_eq_false (by omega)))]
  obtain ⟨la', e1⟩ := parse hl h fuelN (⟨0, (⟨#[]⟩ : ByteArray), 0, 0, 0, 0, 0⟩ : api_Token) 0 [] (by have := fuelN_ge; omega) (by omega) (by omega) (by simpa using hn)
  have e2 : cond_reader__chain_4.l0 (cond_reader__not.f fuelN) ⟨l, (i : Int), (⟨0, (⟨#[]⟩ : ByteArray), 0, 0, 0, 0, 0⟩ : api_Token), 0, []⟩ (⟨#[92, 47]⟩ : ByteArray) 5 ((([] : Nods).length + t.n - 1 : Nat) : Int) (j : Int) la' 0 ([] ++ t.nodes ([] : Nods).length) = some (.inl (((([] : Nods).length + t.n - 1 : Nat) : Int), (j : Int), la', 0, [] ++ t.nodes ([] : Nods).length)) := by
    rw [cond_reader__chain_4.l0]
    dsimp only
    have := sees_p (l := l) (a := j) (la := la') (d := 0) (c := [] ++ t.nodes ([] : Nods).length) 0 4 (⟨#[92, 47]⟩ : ByteArray) hl hlt.2 (by decide)
    rw [show (((0 : Nat)) : Int) = 0 from rfl, Nat.add_zero, ho] at this
    rw [this]; rfl
  rw [or_st _ _ (e1.trans e2)]
  rfl
end Go.Proofs.YtboejepakdnbgaaGreatDoor.K.C
