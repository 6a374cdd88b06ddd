/- prog.Check and weirref09.Check, whole. -/
import Derived.Test.YtcjaknnihjcajaaGreatGL
namespace Go.Proofs.YtcjaknnihjcajaaGreat.K
open Go Go.RowKit
def chkd (a : api_Test) : Prop := cond_Check.f a.Cond = some 0
structure Csz (a : api_Test) : Prop where
 ops : ∀ t, t < a.Threads.length → (gt a.Threads (t : Int)).length ≤ 2199023255488
 doc : a.Doc.size ≤ 140737488355328
 watch : a.Watch.length ≤ big
 cond : a.Cond.length ≤ big
structure Cok (a : api_Test) : Prop where
 sz : Tsz a
 inok : ∀ j, j < a.Inits.length → inok a (inF a j)
 regs : ∀ t, t < a.Threads.length → (kr a t).length ≤ 8
 locs : (kl a).length ≤ 16
 cond : 1 ≤ a.Cond.length ∧ a.Cond.length ≤ 1024 ∧ ∃ g, Wf a.Cond g a.Cond.length ∧ g (a.Cond.length - 1) = 0 ∧ ∀ j, j < a.Cond.length → fd (gt a.Cond (j : Int)) = true
 chk : cond_Check.f a.Cond = some 0
 refs : ∀ j, j < a.Cond.length → (gt a.Cond (j : Int)).Op = 2 → kno a (gt a.Cond (j : Int)).Ref = true
theorem sum_le {B : Nat} : ∀ l : List (List api_Instr), (∀ x ∈ l, x.length ≤ B) → (l.map (·.length)).sum ≤ B * l.length
 | [], _ => by simp
 | x :: l, h => by
  have h1 := sum_le l (fun y hy => h y (List.mem_cons_of_mem _ hy)); have h2 := h x (List.mem_cons_self ..);rw [List.map_cons, List.sum_cons, List.length_cons, Nat.mul_add]; omega
theorem tsz_of {a : api_Test} (h : Csz a) (h4 : a.Threads.length ≤ 4) (hi : a.Inits.length ≤ 64) : Tsz a := ⟨h4, h.ops, by
 have := sum_le (B := 2199023255488) a.Threads (fun x hx => by
  obtain ⟨i, hi, e⟩ := List.mem_iff_getElem.1 hx;rw [← e, ← gt_nat hi]; exact h.ops i hi)
 have h5 : 2199023255488 * a.Threads.length ≤ 2199023255488 * 4 := Nat.mul_le_mul_left _ h4;omega, hi⟩
def waF (a : api_Test) (j : Nat) : api_Ref := gt a.Watch (j : Int)
theorem wa_l3 (a : api_Test) (k : Nat) (hk : k < a.Watch.length) (hl : a.Watch.length ≤ big) : weirref09_asked.l3 a (k : Int) 0 = some (if dupB (waF a) k (waF a k) = true then .inr (.inr (⟨4, (k : Int), 0⟩, 90)) else .inl ()) := by
 unfold big at hl;rw [loopS0 (F := weirref09_asked.l3 a (k : Int)) (g := fun j => if decide (waF a j = waF a k) = true then some (Sum.inr (⟨4, (k : Int), 0⟩, 90)) else none) (N := k) (by omega) (fun j hj => by
  rw [weirref09_asked.l3, if_pos (dT (by omega)), if_pos (by omega), if_pos (by omega)];unfold waF
  by_cases h : decide (gt a.Watch (j : Int) = gt a.Watch (k : Int)) = true
  ·rw [if_pos h, if_pos h]
  ·rw [if_neg h, if_neg h]) (by rw [weirref09_asked.l3, if_neg (dF (by omega))]), seaB]
 unfold dupB
 cases (List.range k).any fun j => decide (waF a j = waF a k) <;> rfl
theorem wa_l0 (a : api_Test) (h : Tsz a) (hl : a.Watch.length ≤ big) : ∀ (n k : Nat) (m : List (api_Ref × Int)), k + n = a.Watch.length → Seen m (waF a) k →
  ∃ o, prog_asked.l0 a (kn a) (k : Int) m = some o ∧ weirref09_asked.l0 a (krs a) (kl a) (k : Int) = some o ∧ (∀ e, o = .inr e → e.2 ≠ 0) := by
 have hl' := hl;unfold big at hl';intro n
 induction n with
 | zero =>
  intro k m hk hm
  have g1 : ¬ (k : Int) < (a.Watch.length : Int) := by omega
  rw [prog_asked.l0, weirref09_asked.l0, if_neg (dF g1), if_neg (dF g1)];exact ⟨_, rfl, rfl, fun e h => (by cases h)⟩
 | succ n ih =>
  intro k m hk hm
  have g1 : (k : Int) < (a.Watch.length : Int) := by omega
  have g2 : 0 ≤ (k : Int) ∧ (k : Int) < (a.Watch.length : Int) := by omega
  rw [prog_asked.l0, weirref09_asked.l0, if_pos (dT g1), if_pos g2, if_pos (dT g1), if_pos g2, has_p a h, known_d a h, wa_l3 a k (by omega) hl];have hg := seenG hm (waF a k);obtain ⟨o, i1, i2, i3⟩ := ih (k + 1) (mput m (waF a k) 1) (by omega) (seenS hm);unfold waF at hg i1;rw [hg, w1 (by omega)];generalize hD : dupB (fun j => gt a.Watch (j : Int)) k (gt a.Watch (k : Int)) = D;have hD2 : dupB (waF a) k (waF a k) = D := hD;rw [hD2, i1, i2];cases kno a (gt a.Watch (k : Int))
  ·exact ⟨_, rfl, rfl, fun e h => (by cases h; simp)⟩
  ·cases D
   ·exact ⟨o, rfl, rfl, i3⟩
   ·exact ⟨_, rfl, rfl, fun e h => (by cases h; simp)⟩
def rgF (a : api_Test) (j : Nat) : Option (api_Where × Int) := if ((gt a.Cond (j : Int)).Op == 2 && !kno a (gt a.Cond (j : Int)).Ref) = true then some (⟨5, (j : Int), 0⟩, 91) else none
theorem rf_p (a : api_Test) (h : Tsz a) (hl : a.Cond.length ≤ big) : prog_asked.l1 a (kn a) 0 = some (outs (sea (rgF a) a.Cond.length 0)) := by
 unfold big at hl;exact loopS0 (F := prog_asked.l1 a (kn a)) (g := rgF a) (N := a.Cond.length) hl (fun j hj => by
  rw [prog_asked.l1, if_pos (dT (by omega)), if_pos (by omega), has_p a h];unfold rgF
  cases ((gt a.Cond (j : Int)).Op == 2) <;> cases kno a (gt a.Cond (j : Int)).Ref <;> rfl) (by rw [prog_asked.l1, if_neg (dF (by omega))])
theorem rf_d (a : api_Test) (h : Tsz a) (hl : a.Cond.length ≤ big) : weirref09_asked.l1 a (krs a) (kl a) 0 = some (outs (sea (rgF a) a.Cond.length 0)) := by
 unfold big at hl;exact loopS0 (F := weirref09_asked.l1 a (krs a) (kl a)) (g := rgF a) (N := a.Cond.length) hl (fun j hj => by
  have g2 : 0 ≤ (j : Int) ∧ (j : Int) < (a.Cond.length : Int) := by omega
  rw [weirref09_asked.l1, if_pos (dT (by omega)), if_pos g2, if_pos g2, known_d a h];unfold rgF
  cases ((gt a.Cond (j : Int)).Op == 2) <;> cases kno a (gt a.Cond (j : Int)).Ref <;> rfl) (by rw [weirref09_asked.l1, if_neg (dF (by omega))])
theorem ask_pd (a : api_Test) (h : Tsz a) (hs : Csz a) : ∃ w e, prog_asked.f a (kn a) = some (w, e) ∧
  weirref09_asked.f a (krs a) (kl a) = some (if e = 0 then (if isName a.Name = true then (if stE a.Doc a.Doc.size 0 < a.Doc.size then (⟨1, 0, 0⟩, 50) else (⟨0, 0, 0⟩, 0)) else (⟨1, 0, 0⟩, 52)) else (w, e)) ∧
  (e = 0 → chkd a ∧ (1 ≤ a.Cond.length ∧ a.Cond.length ≤ 1024 ∧ ∃ g, Wf a.Cond g a.Cond.length ∧ g (a.Cond.length - 1) = 0 ∧ ∀ j, j < a.Cond.length → fd (gt a.Cond (j : Int)) = true) ∧ ∀ j, j < a.Cond.length → (gt a.Cond (j : Int)).Op = 2 → kno a (gt a.Cond (j : Int)).Ref = true) := by
 obtain ⟨o, w1', w2', w3'⟩ := wa_l0 a h hs.watch a.Watch.length 0 [] (by omega) (seen0 _);obtain ⟨c, c1, c2, c3⟩ := check_pd a.Cond;unfold prog_asked.f weirref09_asked.f;rw [show prog_asked.l0 a (kn a) 0 [] = _ from w1', show weirref09_asked.l0 a (krs a) (kl a) 0 = _ from w2', c1, c2, rf_p a h hs.cond, rf_d a h hs.cond, name_d];have hd : weirref09_asked.l2 a 0 = _ := doc_d a hs.doc a.Doc.size 0 (by omega);rw [hd];simp only [Option.bind_eq_bind, Option.bind_some]
 cases o with
 | inr e =>
  have he := w3' e rfl;exact ⟨e.1, e.2, rfl, by rw [if_neg he], fun h => absurd h he⟩
 | inl u =>
  simp only
  by_cases hc : (c != 0) = true
  ·have hc' : c ≠ 0 := by simpa using hc
   rw [if_pos hc, if_pos hc]; exact ⟨_, _, rfl, by rw [if_neg hc'], fun h => absurd h hc'⟩
  ·rw [if_neg hc, if_neg hc]
   have hc0 : c = 0 := by simpa using hc
   cases hr : sea (rgF a) a.Cond.length 0 with
   | some e =>
    obtain ⟨j, -, -, h3, -⟩ := sea_mem hr
    have he : e.2 ≠ 0 := by
     unfold rgF at h3
     split at h3
     ·cases h3; simp
     ·cases h3
    exact ⟨e.1, e.2, rfl, by rw [if_neg he]; rfl, fun h => absurd h he⟩
   | none =>
    simp only [outs, Option.bind_some]
    have hq : ∀ j, j < a.Cond.length → (gt a.Cond (j : Int)).Op = 2 → kno a (gt a.Cond (j : Int)).Ref = true := fun j hj ho => by
     have := sea_none.1 hr j (by omega) (by omega);unfold rgF at this;rw [ho] at this
     cases hk : kno a (gt a.Cond (j : Int)).Ref with
     | true => rfl
     | false => rw [hk] at this; cases this
    by_cases q1 : a.Quant < 1
    ·simp only [dT q1, if_true, Option.bind_some];exact ⟨_, _, rfl, by rw [if_neg (by decide)], fun h => by cases h⟩
    ·by_cases q2 : a.Quant > 3
     ·simp only [decide_eq_false q1, dT q2, if_true, Bool.false_eq_true, if_false, Option.bind_some];exact ⟨_, _, rfl, by rw [if_neg (by decide)], fun h => by cases h⟩
     ·simp only [decide_eq_false q1, decide_eq_false q2, Bool.false_eq_true, if_false, Option.bind_some];refine ⟨_, _, rfl, ?_, fun _ => ⟨(show cond_Check.f a.Cond = some 0 from hc0 ▸ c1), c3 hc0, hq⟩⟩;rw [if_pos rfl];cases isName a.Name
      ·rfl
      ·by_cases hD : stE a.Doc a.Doc.size 0 < a.Doc.size
       ·rw [if_pos hD, if_pos hD]; rfl
       ·rw [if_neg hD, if_neg hD]; rfl
theorem Check_pd (a : api_Test) (hs : Csz a) : ∃ w e, prog_Check.f a = some (w, e) ∧ weirref09_Check.f a = some (w, e) ∧ (e = 0 → Cok a) := by
 unfold prog_Check.f weirref09_Check.f
 by_cases c1 : ((a.Threads.length : Int) == 0) = true
 ·rw [if_pos c1, if_pos c1]; exact ⟨_, _, rfl, rfl, fun h => by cases h⟩
 rw [if_neg c1, if_neg c1]
 by_cases c2 : decide ((a.Threads.length : Int) > 4) = true
 ·rw [if_pos c2, if_pos c2]; exact ⟨_, _, rfl, rfl, fun h => by cases h⟩
 rw [if_neg c2, if_neg c2]
 have h4 : a.Threads.length ≤ 4 := by rw [decide_eq_true_eq] at c2; omega
 obtain ⟨w, e, s1, s2, s3⟩ := set_pd a;rw [s1, s2];simp only [Option.bind_eq_bind, Option.bind_some]
 by_cases he : (e != 0) = true
 ·rw [if_pos he, if_pos he]; exact ⟨_, _, rfl, rfl, fun h => by rw [h] at he; cases he⟩
 rw [if_neg he, if_neg he];obtain ⟨hi, hin⟩ := s3 (by simpa using he);have hT := tsz_of hs h4 hi;obtain ⟨o, f1, f2, f3⟩ := form_l0 a hT a.Threads.length 0 (by omega);rw [show prog_Check.l0 a 0 = _ from f1, show weirref09_Check.l0 a 0 = _ from f2]
 cases o with
 | inr e => exact ⟨e.1, e.2, rfl, rfl, fun h => absurd h (f3 e rfl)⟩
 | inl u =>
  simp only [Option.bind_some];rw [names_p a hT, named_d a hT];simp only [Option.bind_some];obtain ⟨w2, e2, l1, l2, l3⟩ := lim_pd a hT;rw [l1, l2];simp only [Option.bind_some]
  by_cases he2 : (e2 != 0) = true
  ·rw [if_pos he2, if_pos he2]; exact ⟨_, _, rfl, rfl, fun h => by rw [h] at he2; cases he2⟩
  rw [if_neg he2, if_neg he2];obtain ⟨b1, b2⟩ := l3 (by simpa using he2);obtain ⟨w3, e3, k1, k2, k3⟩ := ask_pd a hT hs;rw [k1, k2];simp only [Option.bind_some]
  by_cases he3 : e3 = 0
  ·subst he3;obtain ⟨q0, q1, q2⟩ := k3 rfl;rw [if_neg (by simp), if_pos rfl, name_p, show (⟨#[34, 10]⟩ : ByteArray) = qs from rfl, doc_p a.Doc hs.doc];simp only [Option.bind_some];cases isName a.Name
   ·exact ⟨_, _, rfl, rfl, fun h => by cases h⟩
   ·by_cases hD : stE a.Doc a.Doc.size 0 < a.Doc.size
    ·rw [decide_eq_true hD]; simp only [if_pos hD, if_true]; exact ⟨_, _, rfl, rfl, fun h => by cases h⟩
    ·rw [decide_eq_false hD]; simp only [if_neg hD, if_true]; exact ⟨_, _, rfl, rfl, fun _ => ⟨hT, hin, b1, b2, q1, q0, q2⟩⟩
  ·rw [if_pos (by simpa using he3), if_neg he3];exact ⟨_, _, rfl, rfl, fun h => absurd h he3⟩
end Go.Proofs.YtcjaknnihjcajaaGreat.K
