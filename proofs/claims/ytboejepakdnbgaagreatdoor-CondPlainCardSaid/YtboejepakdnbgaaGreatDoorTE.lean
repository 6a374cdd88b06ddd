/- Texts of trees: their tokens, and that they are the tree's by the grammar. -/
import Derived.Test.YtboejepakdnbgaaGreatDoorTD
import Derived.Test.YtboejepakdnbgaaGreatDoorTG
set_option linter.unusedVariables false
set_option linter.unusedSectionVars false
set_option linter.unusedSimpArgs false
set_option maxRecDepth 100000
namespace Go.Proofs.YtboejepakdnbgaaGreatDoor.K.C
open Go

def Hd (w : ByteArray) : Prop := 1 ≤ w.size ∧ isB (bA w 0) = false ∧ bA w 0 ≠ 42 ∧ (bA w 0 = 40 → 2 ≤ w.size ∧ bA w 1 ≠ 42)
theorem Hd.app {w u : ByteArray} (h : Hd w) : Hd (w ++ u) := by
  obtain ⟨h1, h2, h3, h4⟩ := h
  have e0 : bA (w ++ u) 0 = bA w 0 := by rw [bA_app, if_pos (by omega)]
  refine ⟨by rw [sz]; omega, by rw [e0]; exact h2, by rw [e0]; exact h3, fun h => ?_⟩
  rw [e0] at h
  have := h4 h
  refine ⟨by rw [sz]; omega, ?_⟩
  rw [bA_app, if_pos (by omega)]; exact this.2
theorem Hd.noB {s w : ByteArray} {a : Nat} (h : Hd w) (hr : Rd s a w) : NoB s a := by
  obtain ⟨h1, h2, h3, h4⟩ := h
  have e0 : bA s a = bA w 0 := hr.2 0 (by omega)
  refine ⟨by rw [e0]; exact h2, fun ⟨x, y⟩ => ?_⟩
  rw [e0] at x
  obtain ⟨z1, z2⟩ := h4 x
  have := hr.2 1 (by omega)
  exact z2 (this.symm.trans y)
structure Lx (w : ByteArray) (x : List Tk) : Prop where
  hd : Hd w
  ne : x ≠ []
  run : ∀ (s : ByteArray) (a : Nat), Rd s a w → Fol (bA s (a + w.size)) → Run s a x (a + w.size)
theorem Lx.app {w u : ByteArray} {x y : List Tk} (h : Lx w x) (hu : Lx u y) (hf : Fol (bA u 0)) : Lx (w ++ u) (x ++ y) where
  hd := h.hd.app
  ne := by have := h.ne; simp [this]
  run := by
    intro s a hr hF
    rw [sz, ← Nat.add_assoc] at hF ⊢
    have e0 : bA s (a + w.size) = bA u 0 := hr.right.2 0 hu.hd.1
    exact Run.app (h.run s a hr.left (by rw [e0]; exact hf)) (blE_stop (hu.hd.noB hr.right) _) (hu.run s _ hr.right hF)
theorem Lx.sp {w u : ByteArray} {x y : List Tk} (h : Lx w x) (hu : Lx u y) : Lx (w ++ (⟨#[32]⟩ : ByteArray) ++ u) (x ++ y) where
  hd := h.hd.app.app
  ne := by have := h.ne; simp [this]
  run := by
    intro s a hr hF
    have hr1 := hr.left.left
    have hr2 := hr.left.right
    have hr3 := hr.right
    rw [sz, ← Nat.add_assoc, sz, ← Nat.add_assoc] at hF ⊢
    rw [sz, ← Nat.add_assoc] at hr3
    have e0 : bA s (a + w.size) = 32 := hr2.2 0 (by decide)
    exact Run.app (h.run s a hr1 (by rw [e0]; exact .inr (.inl rfl))) (blk_one s _ hr2 (hu.hd.noB hr3)) (hu.run s _ hr3 hF)
theorem bA_c (c : UInt8) : bA (⟨#[c]⟩ : ByteArray) 0 = (c.toNat : Int) := by rw [bA_l]; rfl
theorem sig_z (c : UInt8) : (⟨#[c]⟩ : ByteArray).size = 1 := rfl
def Sg (c : UInt8) : Prop := c.toNat = 40 ∨ c.toNat = 41 ∨ c.toNat = 58 ∨ c.toNat = 61 ∨ c.toNat = 126 ∨ c.toNat = 91 ∨ c.toNat = 93
theorem sig_lex {s : ByteArray} {a : Nat} {c : UInt8} (hc : Sg c) (hr : Rd s a (⟨#[c]⟩ : ByteArray)) : tkE s a = .inr (4, (⟨#[c]⟩ : ByteArray), 0, a + 1) := by
  have h0 : bA s a = (c.toNat : Int) := (hr.2 0 (by rw [sig_z]; decide)).trans (bA_c c)
  have hs := hr.1
  rw [sig_z] at hs
  have := sign1 (s := s) (a := a) (c := c.toNat) (by omega) h0 hc
  have hcut := hr.cut
  rw [sig_z] at hcut
  rw [hcut] at this
  exact this
theorem sig_hd {c : UInt8} (hc : Sg c) : isB (bA (⟨#[c]⟩ : ByteArray) 0) = false ∧ bA (⟨#[c]⟩ : ByteArray) 0 ≠ 42 := by
  rw [bA_c]
  rcases hc with h | h | h | h | h | h | h <;> rw [h] <;> decide
theorem Lx.one {c : UInt8} (hc : Sg c) (h40 : c.toNat ≠ 40) : Lx (⟨#[c]⟩ : ByteArray) [⟨4, (⟨#[c]⟩ : ByteArray), 0⟩] where
  hd := ⟨by rw [sig_z]; decide, (sig_hd hc).1, (sig_hd hc).2, fun h => by rw [bA_c] at h; omega⟩
  ne := by simp
  run := by
    intro s a hr hF
    have := hr.1
    rw [sig_z] at this ⊢
    exact .one (by omega) (sig_lex hc hr) (show (4 : Int) ≠ 0 by decide) (by omega)
theorem Lx.sig {c : UInt8} {w : ByteArray} {x : List Tk} (hc : Sg c) (h : Lx w x) : Lx ((⟨#[c]⟩ : ByteArray) ++ w) (⟨4, (⟨#[c]⟩ : ByteArray), 0⟩ :: x) where
  hd := by
    have e0 : bA ((⟨#[c]⟩ : ByteArray) ++ w) 0 = bA (⟨#[c]⟩ : ByteArray) 0 := by rw [bA_app, if_pos (by rw [sig_z]; decide)]
    have e1 : bA ((⟨#[c]⟩ : ByteArray) ++ w) 1 = bA w 0 := by rw [bA_app, if_neg (by rw [sig_z]; decide)]; rfl
    have hw := h.hd.1
    refine ⟨by rw [sz, sig_z]; omega, by rw [e0]; exact (sig_hd hc).1, by rw [e0]; exact (sig_hd hc).2, fun _ => ⟨by rw [sz, sig_z]; omega, by rw [e1]; exact h.hd.2.2.1⟩⟩
  ne := by simp
  run := by
    intro s a hr hF
    have h1 := hr.left
    have h2 := hr.right
    rw [sz, sig_z, ← Nat.add_assoc] at hF ⊢
    rw [sig_z] at h2
    have hz := h1.1
    rw [sig_z] at hz
    have h3 := h.run s _ h2 hF
    have hb := blE_stop (h.hd.noB h2) s.size
    cases x with
    | nil => exact absurd rfl h.ne
    | cons u r => exact .cons (by omega) (sig_lex hc h1) (show (4 : Int) ≠ 0 by decide) (by omega) hb h3
theorem let_all : ∀ n : Fin 256, (K.isL (n.1 : Int) = true ∨ (48 ≤ (n.1 : Int) ∧ (n.1 : Int) ≤ 57) ∨ (n.1 : Int) = 45) → isB (n.1 : Int) = false ∧ (n.1 : Int) ≠ 42 ∧ (n.1 : Int) ≠ 40 := by decide +kernel
theorem let_hd {w : ByteArray} (h1 : 1 ≤ w.size) (h : K.isL (bA w 0) = true ∨ (48 ≤ bA w 0 ∧ bA w 0 ≤ 57) ∨ bA w 0 = 45) : Hd w := by
  have hb := bA_b w 0
  have := let_all ⟨(bA w 0).toNat, by omega⟩
  have e : ((⟨(bA w 0).toNat, by omega⟩ : Fin 256).1 : Int) = bA w 0 := by show (((bA w 0).toNat : Nat) : Int) = _; omega
  rw [e] at this
  obtain ⟨i1, i2, i3⟩ := this h
  exact ⟨h1, i1, i2, fun h => absurd h i3⟩
theorem Lx.name {w : ByteArray} (h : isName w = true) : Lx w [⟨1, w, 0⟩] where
  hd := let_hd (name_facts h).1 (.inl (name_facts h).2.2.1)
  ne := by simp
  run := by
    intro s a hr hF
    have h1 := (name_facts h).1
    have := hr.1
    exact .one (by omega) (name_lex hr h hF) (show (1 : Int) ≠ 0 by decide) (by omega)
theorem num_hd {v : Int} (h : -9223372036854775808 ≤ v ∧ v ≤ 9223372036854775807) : Hd (itoaB v) := by
  obtain ⟨ds, h1, h2, h3, h4, h5⟩ := itoa_form h
  refine let_hd (by rw [K.size_l, h5, List.length_append]; omega) (.inr ?_)
  rw [bA_l, h5]
  by_cases hv : v < 0
  · right; simp [hv]
  · left
    cases ds with
    | nil => simp at h3
    | cons d r =>
      have := h1 d (List.mem_cons_self ..)
      unfold isDg' at this
      simp only [if_neg hv, List.nil_append, List.getD_cons_zero]
      omega
theorem Lx.num {v : Int} (h : -9223372036854775808 ≤ v ∧ v ≤ 9223372036854775807) : Lx (itoaB v) [⟨2, itoaB v, v⟩] where
  hd := num_hd h
  ne := by simp
  run := by
    intro s a hr hF
    have h1 := (num_hd h).1
    have := hr.1
    exact .one (by omega) (num_lex h hr hF) (show (2 : Int) ≠ 0 by decide) (by omega)
theorem Lx.two (i : Nat) (hi : i < 2) : Lx (lng i) [⟨4, lng i, 0⟩] where
  hd := by match i, hi with | 0, _ => exact ⟨by decide, by decide, by decide, by decide⟩ | 1, _ => exact ⟨by decide, by decide, by decide, by decide⟩
  ne := by simp
  run := by
    intro s a hr hF
    have hz : (lng i).size = 2 := by match i, hi with | 0, _ => rfl | 1, _ => rfl
    have h2 := sign2 i hi hr
    have := hr.1
    rw [hz] at this ⊢
    exact .one (by omega) h2 (show (4 : Int) ≠ 0 by decide) (by omega)
def tk (s : ByteArray) : Tk := ⟨4, s, 0⟩
def refT (r : api_Ref) : List Tk := if r.Thread < 0 then [⟨1, r.Name, 0⟩] else ⟨2, itoaB r.Thread, r.Thread⟩ :: tk (⟨#[58]⟩ : ByteArray) :: [⟨1, r.Name, 0⟩]
def ptT (x : List Tk) (b : Bool) : List Tk := if b then tk (⟨#[40]⟩ : ByteArray) :: (x ++ [tk (⟨#[41]⟩ : ByteArray)]) else x
namespace Cd
def toks : Cd → List Tk
  | .tru => [⟨1, (⟨#[116, 114, 117, 101]⟩ : ByteArray), 0⟩]
  | .eq r v => refT r ++ (tk (⟨#[61]⟩ : ByteArray) :: [⟨2, itoaB v, v⟩])
  | .not a => tk (⟨#[126]⟩ : ByteArray) :: ptT a.toks (bk 3 a false)
  | .and a b => ptT a.toks (bk 4 a false) ++ (tk (lng 0) :: ptT b.toks (bk 4 b true))
  | .or a b => ptT a.toks (bk 5 a false) ++ (tk (lng 1) :: ptT b.toks (bk 5 b true))
end Cd
theorem Lx.part {w : ByteArray} {x : List Tk} (h : Lx w x) (b : Bool) : Lx (pt w b) (ptT x b) := by
  unfold pt ptT
  cases b
  · exact h
  · simp only [if_true]
    exact (h.sig (c := 40) (.inl rfl)).app (Lx.one (c := 41) (.inr (.inl rfl)) (by decide)) (.inr (.inr (.inl rfl)))
theorem Lx.ref {r : api_Ref} (h : -1 ≤ r.Thread ∧ r.Thread ≤ 9999) (hn : isName r.Name = true) : Lx (refB r) (refT r) := by
  unfold refB refT
  by_cases ht : r.Thread < 0
  · rw [if_pos ht, if_pos ht]; exact Lx.name hn
  · rw [if_neg ht, if_neg ht, ByteArray.append_assoc]
    exact (Lx.num (v := r.Thread) (by omega)).app ((Lx.name hn).sig (c := 58) (.inr (.inr (.inl rfl)))) (by
      rw [bA_app, if_pos (by rw [sig_z]; decide), bA_c]
      exact .inr (.inr (.inr (.inl rfl))))
theorem Lx.text : ∀ t : Cd, t.wf = true → t.vals → Lx t.text t.toks := by
  intro t
  induction t with
  | tru => intro _ _; exact Lx.name (by decide +kernel)
  | eq r v =>
    intro h hv
    simp only [Cd.wf, Bool.and_eq_true, decide_eq_true_eq] at h
    simp only [Cd.text, Cd.toks, ByteArray.append_assoc]
    exact (Lx.ref h.1 h.2).app ((Lx.num hv).sig (c := 61) (.inr (.inr (.inr (.inl rfl))))) (by
      rw [bA_app, if_pos (by rw [sig_z]; decide), bA_c]
      exact .inr (.inr (.inr (.inr (.inl rfl)))))
  | not a ih =>
    intro h hv
    exact ((ih h hv).part (Cd.bk 3 a false)).sig (c := 126) (.inr (.inr (.inr (.inr (.inl rfl)))))
  | and a b iha ihb =>
    intro h hv
    simp only [Cd.wf, Bool.and_eq_true] at h
    have := (((iha h.1 hv.1).part (Cd.bk 4 a false)).sp (Lx.two 0 (by decide))).sp ((ihb h.2 hv.2).part (Cd.bk 4 b true))
    have e : (⟨#[32, 47, 92, 32]⟩ : ByteArray) = (⟨#[32]⟩ : ByteArray) ++ lng 0 ++ (⟨#[32]⟩ : ByteArray) := by decide
    simp only [Cd.text, Cd.toks, e]
    simp only [ByteArray.append_assoc, List.append_assoc] at this ⊢
    exact this
  | or a b iha ihb =>
    intro h hv
    simp only [Cd.wf, Bool.and_eq_true] at h
    have := (((iha h.1 hv.1).part (Cd.bk 5 a false)).sp (Lx.two 1 (by decide))).sp ((ihb h.2 hv.2).part (Cd.bk 5 b true))
    have e : (⟨#[32, 92, 47, 32]⟩ : ByteArray) = (⟨#[32]⟩ : ByteArray) ++ lng 1 ++ (⟨#[32]⟩ : ByteArray) := by decide
    simp only [Cd.text, Cd.toks, e]
    simp only [ByteArray.append_assoc, List.append_assoc] at this ⊢
    exact this
def Is (l : Toks) : Nat → List Tk → Prop
  | _, [] => True
  | i, t :: r => (T l i t.k t.x ∧ (gt l (i : Int)).Value = t.v) ∧ Is l (i + 1) r
theorem Is.app {l : Toks} : ∀ {x y : List Tk} {i : Nat}, Is l i (x ++ y) → Is l i x ∧ Is l (i + x.length) y
  | [], y, i, h => ⟨trivial, h⟩
  | t :: x, y, i, h => by
    have := Is.app (x := x) h.2
    refine ⟨⟨h.1, this.1⟩, ?_⟩
    rw [List.length_cons, show i + (x.length + 1) = i + 1 + x.length by omega]; exact this.2
theorem same_is : ∀ (x : List Tk) (P L Q : Toks), Same L x → Is (P ++ (L ++ Q)) P.length x
  | [], P, L, Q, h => trivial
  | t :: x, P, L, Q, h => by
    cases L with
    | nil => simp [Same] at h
    | cons u L =>
      unfold Same at h
      simp only [List.map_cons, List.cons.injEq, Prod.mk.injEq] at h
      obtain ⟨⟨h1, h2, h3⟩, h4⟩ := h
      have hl : P.length < (P ++ (u :: L ++ Q)).length := by simp
      have hg : gt (P ++ (u :: L ++ Q)) (P.length : Int) = u := by rw [gt_nat hl]; simp
      refine ⟨⟨⟨hl, by rw [hg]; exact h1, by rw [hg]; exact h2⟩, by rw [hg]; exact h3⟩, ?_⟩
      have := same_is x (P ++ [u]) L Q h4
      simp only [List.append_assoc, List.length_append, List.length_singleton, List.singleton_append] at this
      exact this
theorem sg_x {l : Toks} {i : Nat} {s s' : ByteArray} (h : T l i 4 s) (hs : s ≠ s') : sg l i 4 s' = false := sg_t (by rw [h.2.2]; exact hs)
/-! ### Parse of a tree's text -/
theorem Run.count {s : ByteArray} {a e : Nat} {x : List Tk} (h : Run s a x e) : a + x.length ≤ e := by
  induction h with
  | one ha h hk he => have := ((tkE_b ha).2 _ _ _ _ h).2.1; simp only [List.length_singleton]; omega
  | @cons a b e f t u r ha h hk he hb hr ih =>
    have := ((tkE_b ha).2 _ _ _ _ h).2.1
    have h2 := (blE_b s s.size e he).1
    rw [hb] at h2
    simp only [List.length_cons] at ih ⊢
    simp only at h2
    omega
theorem parse_gr {s : ByteArray} {t : Cd} {X : List Tk} {e : Nat} (hs : s.size ≤ 1048576) (hS : Same (tT s) X) (hB : tB s = none)
    (hg : ∀ L : Toks, Is L 0 X → (∀ x : ByteArray, sg L X.length 4 x = false) → Gr L 2 t 0 X.length e) (he : e ≤ 64) (hn : t.n ≤ 1024) : cond_Parse.f s = some (t.nodes 0, .nil) := by
  obtain ⟨hl, hb⟩ := tks_b s hs
  have hlen : (tT s).length = X.length := by have := congrArg List.length hS; simpa using this
  unfold cond_Parse.f
  rw [all_p s hs, hB]
  simp only [Option.bind_eq_bind, Option.bind_some, nilN, Bool.not_true, Bool.false_eq_true, if_false]
  rw [place_p s hs s.size (Nat.le_refl _)]
  simp only [Option.bind_some]
  generalize hen : (⟨0, (⟨#[]⟩ : ByteArray), 0, (plc s s.size).1, (plc s s.size).2, (s.size : Int), (s.size : Int)⟩ : api_Token) = en
  have hek : en.Kind = 0 := by rw [← hen]
  rw [if_pos (by rw [List.length_singleton]; omega)]
  generalize hL : tT s ++ [en] = L
  have hI : Is L 0 X := by have := same_is X [] (tT s) [en] hS; rw [← hL]; exact this
  have hLl : L.length = X.length + 1 := by rw [← hL, List.length_append, List.length_singleton, hlen]
  have hlast : (gt L ((X.length : Nat) : Int)).Kind = 0 := by
    rw [gt_nat (by omega), ← hek]
    congr 1
    subst hL
    rw [List.getElem_append_right (by omega)]
    simp
  have hk : ∀ x : ByteArray, sg L X.length 4 x = false := fun x => sg_k (by rw [hlast]; decide)
  have ht := take_T (l := L) (by omega) (hg L hI hk) (hk _) he hn
  rw [show ((0 : Nat) : Int) = 0 from rfl] at ht
  rw [ht]
  simp only [Option.bind_some, nilN, Bool.not_true, Bool.false_eq_true, if_false]
  rw [if_pos (by omega), if_neg (by rw [hlast]; decide)]
end Go.Proofs.YtboejepakdnbgaaGreatDoor.K.C
