/- prog.Check and weirref09.Check tell the same. -/
import Derived.Test.YtcjaknnihjcajaaGreatGK
namespace Go.Proofs.YtcjaknnihjcajaaGreat.K
open Go Go.RowKit
theorem sea_s {β : Type} (g : Nat → Option β) (n k : Nat) : sea g (n + 1) k = (match g k with | some e => some e | none => sea g n (k + 1)) := by
 conv => lhs; unfold sea
 cases g k <;> rfl
def dupB (f : Nat → api_Ref) (k : Nat) (r : api_Ref) : Bool := (List.range k).any fun j => decide (f j = r)
def Seen (m : List (api_Ref × Int)) (f : Nat → api_Ref) (k : Nat) : Prop := ∀ r, mget m r = if dupB f k r = true then some 1 else none
theorem seen0 (f : Nat → api_Ref) : Seen [] f 0 := fun r => rfl
theorem seenS {m : List (api_Ref × Int)} {f : Nat → api_Ref} {k : Nat} (h : Seen m f k) : Seen (mput m (f k) 1) f (k + 1) := fun r => by
 rw [mget_mput, h r];unfold dupB;rw [List.range_succ, List.any_append];simp only [List.any_cons, List.any_nil, Bool.or_false]
 by_cases e : f k = r
 ·rw [if_pos e, dT e, Bool.or_true, if_pos rfl]
 ·rw [if_neg e, decide_eq_false e, Bool.or_false]
theorem seenG {m : List (api_Ref × Int)} {f : Nat → api_Ref} {k : Nat} (h : Seen m f k) (r : api_Ref) : decide ((mget m r).getD (0 : Int) > 0) = dupB f k r := by
 rw [h r]; cases dupB f k r <;> rfl
def inF (a : api_Test) (j : Nat) : api_Ref := (gt a.Inits (j : Int)).Ref
def inok (a : api_Test) (r : api_Ref) : Prop := r.Thread = -1 ∨ (0 ≤ r.Thread ∧ r.Thread < (a.Threads.length : Int))
theorem in_l1 (a : api_Test) (k : Nat) (hk : k < a.Inits.length) (hl : a.Inits.length ≤ big) : weirref09_inits.l1 a (k : Int) 0 = some (if dupB (inF a) k (inF a k) = true then .inr (.inr (⟨1, (k : Int), 0⟩, 90)) else .inl ()) := by
 unfold big at hl;rw [loopS0 (F := weirref09_inits.l1 a (k : Int)) (g := fun j => if decide (inF a j = inF a k) = true then some (Sum.inr (⟨1, (k : Int), 0⟩, 90)) else none) (N := k) (by omega) (fun j hj => by
  rw [weirref09_inits.l1, if_pos (dT (by omega)), if_pos (by omega)];unfold inF
  by_cases h : decide ((gt a.Inits (j : Int)).Ref = (gt a.Inits (k : Int)).Ref) = true
  ·rw [if_pos h, if_pos h]
  ·rw [if_neg h, if_neg h]) (by rw [weirref09_inits.l1, if_neg (dF (by omega))]), seaB]
 unfold dupB
 cases (List.range k).any fun j => decide (inF a j = inF a k) <;> rfl
theorem set_l0 (a : api_Test) (hl : a.Inits.length ≤ 64) : ∀ (n k : Nat) (m : List (api_Ref × Int)), k + n = a.Inits.length → Seen m (inF a) k →
  ∃ o, prog_settings.l0 a (k : Int) m = some o ∧ weirref09_inits.l0 a (k : Int) = some o ∧ ((∀ e, o = .inr e → e.2 ≠ 0) ∧ (o = .inl () → ∀ j, k ≤ j → j < a.Inits.length → inok a (inF a j))) := by
 intro n
 induction n with
 | zero =>
  intro k m hk hm
  have g1 : ¬ (k : Int) < (a.Inits.length : Int) := by omega
  rw [prog_settings.l0, weirref09_inits.l0, if_neg (dF g1), if_neg (dF g1)];exact ⟨_, rfl, rfl, fun e h => (by cases h), fun _ j h1 h2 => (by omega)⟩
 | succ n ih =>
  intro k m hk hm
  have g1 : (k : Int) < (a.Inits.length : Int) := by omega
  have g2 : 0 ≤ (k : Int) ∧ (k : Int) < (a.Inits.length : Int) := by omega
  rw [prog_settings.l0, weirref09_inits.l0, if_pos (dT g1), if_pos g2, if_pos (dT g1), if_pos g2, reg_p, reg_d, name_p, name_d, in_l1 a k (by omega) (by unfold big; omega)];have hg := seenG hm (inF a k);have hmS := seenS hm;obtain ⟨o, i1, i2, i3, i4⟩ := ih (k + 1) (mput m (inF a k) 1) (by omega) hmS;unfold inF at hg i1;rw [hg, w1 (by omega)];generalize hD : dupB (fun j => (gt a.Inits (j : Int)).Ref) k (gt a.Inits (k : Int)).Ref = D;have hD2 : dupB (inF a) k (inF a k) = D := hD;rw [hD2, i1, i2]
  have i4' : inok a (inF a k) → o = .inl () → ∀ j, k ≤ j → j < a.Inits.length → inok a (inF a j) := fun hk h j h1 h2 => by
   by_cases e : j = k
   ·rw [e]; exact hk
   ·exact i4 h j (by omega) h2
  unfold inok at i4';generalize hR : (gt a.Inits (k : Int)).Ref = R at *;have hR2 : inF a k = R := hR;rw [hR2] at i4'
  by_cases c1 : R.Thread = -1
  ·have b1 : (R.Thread != -1) = false := by simp [c1]
   have b2 : (R.Thread == -1) = true := by simp [c1]
   simp only [b1, b2, Bool.false_eq_true, if_false, if_true, Option.bind_eq_bind, Option.bind_some];cases isName R.Name
   ·exact ⟨_, rfl, rfl, fun e h => (by cases h; simp), fun h => (by cases h)⟩
   ·cases D
    ·exact ⟨o, rfl, rfl, i3, i4' (.inl c1)⟩
    ·exact ⟨_, rfl, rfl, fun e h => (by cases h; simp), fun h => (by cases h)⟩
  ·have b1 : (R.Thread != -1) = true := by simp [c1]
   have b2 : (R.Thread == -1) = false := by simp [c1]
   by_cases c2 : R.Thread < 0
   ·simp only [b1, b2, dT c2, Bool.false_eq_true, if_false, if_true, Option.bind_eq_bind, Option.bind_some];exact ⟨_, rfl, rfl, fun e h => (by cases h; simp), fun h => (by cases h)⟩
   ·by_cases c3 : R.Thread ≥ (a.Threads.length : Int)
    ·simp only [b1, b2, decide_eq_false c2, dT c3, Bool.false_eq_true, if_false, if_true, Option.bind_eq_bind, Option.bind_some];exact ⟨_, rfl, rfl, fun e h => (by cases h; simp), fun h => (by cases h)⟩
    ·simp only [b1, b2, decide_eq_false c2, decide_eq_false c3, Bool.false_eq_true, if_false, if_true, Option.bind_eq_bind, Option.bind_some];cases isReg R.Name
     ·exact ⟨_, rfl, rfl, fun e h => (by cases h; simp), fun h => (by cases h)⟩
     ·cases D
      ·exact ⟨o, rfl, rfl, i3, i4' (.inr (by omega))⟩
      ·exact ⟨_, rfl, rfl, fun e h => (by cases h; simp), fun h => (by cases h)⟩
theorem set_pd (a : api_Test) : ∃ w e, prog_settings.f a = some (w, e) ∧ weirref09_inits.f a = some (w, e) ∧ (e = 0 → a.Inits.length ≤ 64 ∧ ∀ j, j < a.Inits.length → inok a (inF a j)) := by
 unfold prog_settings.f weirref09_inits.f
 by_cases c : (a.Inits.length : Int) > 64
 ·rw [if_pos (dT c), if_pos (dT c)]; exact ⟨_, _, rfl, rfl, fun h => by cases h⟩
 ·rw [if_neg (dF c), if_neg (dF c)];obtain ⟨o, e1, e2, e3, e4⟩ := set_l0 a (by omega) a.Inits.length 0 [] (by omega) (seen0 _);rw [show prog_settings.l0 a 0 [] = _ from e1, show weirref09_inits.l0 a 0 = _ from e2]
  cases o with
  | inl u => exact ⟨_, _, rfl, rfl, fun _ => ⟨by omega, fun j hj => e4 rfl j (by omega) hj⟩⟩
  | inr e => exact ⟨e.1, e.2, rfl, rfl, fun h => absurd h (e3 e rfl)⟩
theorem form_l1 (a : api_Test) (t : Nat) (ht : t < a.Threads.length) (hl : (gt a.Threads (t : Int)).length ≤ big) :
  ∃ S, prog_Check.l1 a (t : Int) 0 = some (outs S) ∧ weirref09_Check.l1 a (t : Int) 0 = some (outs S) ∧ (∀ e, S = some e → ∃ w c, e = .inr (w, c) ∧ c ≠ 0) := by
 unfold big at hl;refine ⟨_, loopS0 (F := prog_Check.l1 a (t : Int)) (g := fun j => if (fm (gt (gt a.Threads (t : Int)) (j : Int)) != 0) = true then some (.inr (⟨3, (t : Int), (j : Int)⟩, fm (gt (gt a.Threads (t : Int)) (j : Int)))) else none) (N := (gt a.Threads (t : Int)).length) hl (fun j hj => by
  rw [prog_Check.l1, if_pos (dT (by omega)), if_pos (by omega), (form_pd _).1];simp only [Option.bind_eq_bind, Option.bind_some]
  cases (fm (gt (gt a.Threads (t : Int)) (j : Int)) != 0) <;> rfl) (by rw [prog_Check.l1, if_neg (dF (by omega))]), loopS0 (F := weirref09_Check.l1 a (t : Int)) (N := (gt a.Threads (t : Int)).length) hl (fun j hj => by
  rw [weirref09_Check.l1, if_pos (by omega), if_pos (dT (by omega)), if_pos (by omega), if_pos (by omega), (form_pd _).2];simp only [Option.bind_eq_bind, Option.bind_some]
  cases (fm (gt (gt a.Threads (t : Int)) (j : Int)) != 0) <;> rfl) (by rw [weirref09_Check.l1, if_pos (by omega), if_neg (dF (by omega))]), fun e h => ?_⟩
 obtain ⟨j, -, -, h3, -⟩ := sea_mem h
 split at h3
 ·rename_i hh
  cases h3;exact ⟨_, _, rfl, by simpa using hh⟩
 ·cases h3
theorem form_l0 (a : api_Test) (h : Tsz a) : ∀ (n k : Nat), k + n = a.Threads.length →
  ∃ o, prog_Check.l0 a (k : Int) = some o ∧ weirref09_Check.l0 a (k : Int) = some o ∧ (∀ e, o = .inr e → e.2 ≠ 0) := by
 have h4 := h.th;intro n
 induction n with
 | zero =>
  intro k hk;rw [prog_Check.l0, weirref09_Check.l0, if_neg (dF (by omega)), if_neg (dF (by omega))];exact ⟨_, rfl, rfl, fun e h => by cases h⟩
 | succ n ih =>
  intro k hk;have ho := h.ops k (by omega);obtain ⟨S, e1, e2, e3⟩ := form_l1 a k (by omega) (by unfold big; omega);rw [prog_Check.l0, weirref09_Check.l0, if_pos (dT (by omega)), if_pos (by omega), if_pos (dT (by omega)), e1, e2]
  cases S with
  | none =>
   simp only [outs, Option.bind_eq_bind, Option.bind_some];rw [w1 (by omega)];exact ih (k + 1) (by omega)
  | some e =>
   obtain ⟨w, c, rfl, hc⟩ := e3 e rfl;exact ⟨_, rfl, rfl, fun e h => by cases h; exact hc⟩
theorem lim_p (a : api_Test) (t : Nat) (hl : (gt a.Threads (t : Int)).length ≤ big) : ∀ (n k : Nat) (c : Int), k + n = (gt a.Threads (t : Int)).length →
  prog_bounds.l2 a (t : Int) c (k : Int) = some (evK (fun k => (gt (gt a.Threads (t : Int)) (k : Int)).Op) n k c) := by
 unfold big at hl;intro n
 induction n with
 | zero => intro k c hk; rw [prog_bounds.l2, if_neg (dF (by omega))]; rfl
 | succ n ih =>
  intro k c hk;rw [prog_bounds.l2, if_pos (dT (by omega)), if_pos (by omega), kind_p];simp only [Option.bind_eq_bind, Option.bind_some];rw [w1 (by omega), ih (k + 1) _ (by omega)]
  try rfl
theorem lim_d (a : api_Test) (t : Nat) (ht : t < a.Threads.length) (hl : (gt a.Threads (t : Int)).length ≤ big) : ∀ (n k : Nat) (c : Int), k + n = (gt a.Threads (t : Int)).length →
  weirref09_limits.l1 a (t : Int) c (k : Int) = some (evK (fun k => (gt (gt a.Threads (t : Int)) (k : Int)).Op) n k c) := by
 unfold big at hl;intro n
 induction n with
 | zero => intro k c hk; rw [weirref09_limits.l1, if_pos (by omega), if_neg (dF (by omega))]; rfl
 | succ n ih =>
  intro k c hk;rw [weirref09_limits.l1, if_pos (by omega), if_pos (dT (by omega)), if_pos (by omega), if_pos (by omega), weight_d];simp only [Option.bind_eq_bind, Option.bind_some];rw [w1 (by omega), ih (k + 1) _ (by omega)]
  try rfl
abbrev evA (a : api_Test) : Nat → Nat → Int → Int := evB (fun t k => (gt (gt a.Threads (t : Int)) (k : Int)).Op) (fun t => (gt a.Threads (t : Int)).length)
def lg (a : api_Test) (k : Nat) : Option (api_Where × Int) := if decide (((kr a k).length : Int) > 8) = true then some (⟨2, (k : Int), 0⟩, 98) else none
theorem lim_l0 (a : api_Test) (h : Tsz a) : ∀ (n k : Nat) (c : Int), k + n = a.Threads.length →
  prog_bounds.l1 a c (k : Int) = some (evA a n k c) ∧ weirref09_limits.l0 a (krs a) c (k : Int) = some (match sea (lg a) n k with | some e => .inr e | none => .inl (evA a n k c)) := by
 have h4 := h.th;intro n
 induction n with
 | zero =>
  intro k c hk;rw [prog_bounds.l1, weirref09_limits.l0, krs_len, if_neg (dF (by omega)), if_neg (dF (by omega))]; exact ⟨rfl, rfl⟩
 | succ n ih =>
  intro k c hk;have ho := h.ops k (by omega);have q1 := lim_p a k (by unfold big; omega) (gt a.Threads (k : Int)).length 0 c (by omega);have q2 := lim_d a k (by omega) (by unfold big; omega) (gt a.Threads (k : Int)).length 0 c (by omega);rw [prog_bounds.l1, weirref09_limits.l0, krs_len, if_pos (dT (by omega)), if_pos (by omega), if_pos (dT (by omega)), if_pos (by omega), krs_gt a (by omega), show prog_bounds.l2 a (k : Int) c 0 = _ from q1, show weirref09_limits.l1 a (k : Int) c 0 = _ from q2];simp only [Option.bind_eq_bind, Option.bind_some];rw [w1 (by omega)];obtain ⟨i1, i2⟩ := ih (k + 1) (evK (fun j => (gt (gt a.Threads (k : Int)) (j : Int)).Op) (gt a.Threads (k : Int)).length 0 c) (by omega);rw [i1, i2];refine ⟨rfl, ?_⟩;rw [sea_s, show lg a k = if decide (((kr a k).length : Int) > 8) = true then some (⟨2, (k : Int), 0⟩, 98) else none from rfl]
  by_cases hc : decide (((kr a k).length : Int) > 8) = true
  ·rw [if_pos hc, if_pos hc]
  ·rw [if_neg hc, if_neg hc]; rfl
theorem lim_pd (a : api_Test) (h : Tsz a) : ∃ w e, prog_bounds.f a (kn a) = some (w, e) ∧ weirref09_limits.f a (krs a) (kl a) = some (w, e) ∧ (e = 0 → (∀ t, t < a.Threads.length → (kr a t).length ≤ 8) ∧ (kl a).length ≤ 16) := by
 have h4 := h.th;obtain ⟨e1, e2⟩ := lim_l0 a h a.Threads.length 0 ((kl a).length : Int) (by omega);unfold prog_bounds.f weirref09_limits.f;have e0 := loopS0 (F := prog_bounds.l0 (kn a)) (g := lg a) (N := a.Threads.length) (by omega) (fun k hk => by
  rw [prog_bounds.l0, show (kn a).regs = krs a from rfl, krs_len, if_pos (dT (by omega)), if_pos (by omega), krs_gt a hk];unfold lg
  by_cases hc : decide (((kr a k).length : Int) > 8) = true
  ·rw [if_pos hc, if_pos hc]
  ·rw [if_neg hc, if_neg hc]) (by rw [prog_bounds.l0, show (kn a).regs = krs a from rfl, krs_len, if_neg (dF (by omega))])
 rw [e0, show weirref09_limits.l0 a (krs a) ((kl a).length : Int) 0 = _ from e2, show (kn a).locs = kl a from rfl, show prog_bounds.l1 a ((kl a).length : Int) 0 = _ from e1]
 cases hs : sea (lg a) a.Threads.length 0 with
 | some e =>
  refine ⟨e.1, e.2, rfl, rfl, fun h => ?_⟩;obtain ⟨j, -, -, h3, -⟩ := sea_mem hs;unfold lg at h3
  split at h3
  ·cases h3; cases h
  ·cases h3
 | none =>
  simp only [outs, Option.bind_eq_bind, Option.bind_some]
  by_cases c1 : ((kl a).length : Int) > 16
  ·rw [if_pos (dT c1)]; exact ⟨_, _, rfl, rfl, fun h => by cases h⟩
  ·rw [if_neg (dF c1)]
   by_cases c2 : evA a a.Threads.length 0 ((kl a).length : Int) > 64
   ·rw [if_pos (dT c2)]; exact ⟨_, _, rfl, rfl, fun h => by cases h⟩
   ·rw [if_neg (dF c2)];refine ⟨_, _, rfl, rfl, fun _ => ⟨fun t ht => ?_, by omega⟩⟩;have := sea_none.1 hs t (by omega) (by omega);unfold lg at this
    split at this
    ·cases this
    ·rename_i hh; simp at hh; omega
end Go.Proofs.YtcjaknnihjcajaaGreat.K
