/- Brackets within one another, plain conditions, and the law. -/
import Derived.Test.YtcjaknnihjcajaaGreatVB
import Derived.Test.YtcjaknnihjcajaaGreatO
namespace Go.Proofs.YtcjaknnihjcajaaGreat.K
open Go
def br (a b : Int) (s : Bool) : Bool := (cond_bracketed.f a b s).getD false
theorem br_p (a b : Int) (s : Bool) : cond_bracketed.f a b s = some (br a b s) := by
 unfold br cond_bracketed.f; (repeat' split) <;> rfl
theorem br_d (a b : Int) (s : Bool) : weirref06_bracketed.f a b s = some (br a b s) := by
 rw [← br_p]; unfold cond_bracketed.f weirref06_bracketed.f
 by_cases h3 : a = 3
 ·simp [h3]
 ·by_cases h4 : a = 4
  ·by_cases h5 : b = 5
   ·simp [h4, h5]
   ·by_cases h6 : b = 4 <;> cases s <;> simp [h4, h5, h6]
  ·by_cases h5 : b = 5 <;> cases s <;> simp [h3, h4, h5]
theorem gt_in {c : List api_Node} {i : Nat} (h : i < c.length) : (0 : Int) ≤ (i : Int) ∧ (i : Int) < (c.length : Int) := by omega
def one (d : Int) (b : Bool) : Int := if b then d + 1 else d
theorem one_le (d : Int) (b : Bool) : d ≤ one d b ∧ one d b ≤ d + 1 := by unfold one; split <;> omega
theorem part_p {rec : List api_Node → Int → Option Int} {c : List api_Node} {a : Nat} {d : Int} (n : api_Node) (s : Bool) (ha : a < c.length) (hr : rec c (a : Int) = some d) (hd : 0 ≤ d ∧ d < 10000) :
  cond_deep_1_1.f rec (a : Int) s c n = some (one d (br n.Op (gt c (a : Int)).Op s)) := by
 unfold cond_deep_1_1.f one;simp only [hr, Option.bind_eq_bind, Option.bind_some, if_pos (gt_in ha), br_p];rw [wi64_id (by omega) (by omega)]
 split <;> rfl
theorem deep_pd {c : List api_Node} {g : Nat → Nat} (hw : Wf c g c.length) (hc : c.length ≤ 1024) : ∀ (m i : Nat), i < m → i < c.length →
  ∃ d, cond_deep.f m c (i : Int) = some d ∧ weirref06_Deep.f m c (i : Int) = some d ∧ 0 ≤ d ∧ d ≤ 2 * (i : Int) := by
 intro m
 induction m with
 | zero => intro i hi; omega
 | succ m ih =>
  intro i hi hl;obtain ⟨w1, w2, w3⟩ := hw i hl;unfold cond_deep.f weirref06_Deep.f cond_deep.body weirref06_Deep.body;rw [if_pos (gt_in hl), if_pos (gt_in hl)];generalize hn : gt c (i : Int) = n at *
  by_cases h3 : n.Op = 3
  ·obtain ⟨p1, p2, p3⟩ := w2 h3;obtain ⟨d, d1, d2, d3, d4⟩ := ih (i - 1) (by omega) (by omega);have ho := one_le d (br n.Op (gt c ((i - 1 : Nat) : Int)).Op false);rw [if_pos (by rw [h3]; rfl), p2, part_p n false (by omega) d1 (by omega)];refine ⟨1 + one d (br n.Op (gt c ((i - 1 : Nat) : Int)).Op false), ?_, ?_, by omega, by omega⟩
   ·simp only [Option.bind_eq_bind, Option.bind_some];rw [wi64_id (by omega) (by omega)]
   ·have e1 : (n.Op == 3) = true := by rw [h3]; rfl
    have e2 : ¬ (n.Op == 4) = true := by rw [h3]; decide
    have e3 : ¬ (n.Op == 5) = true := by rw [h3]; decide
    simp only [e1, if_true, d2, Option.bind_eq_bind, Option.bind_some, if_pos (gt_in (show i - 1 < c.length by omega)), br_d, if_neg e2, if_neg e3];rw [wi64_id (n := d + 1) (by omega) (by omega)];unfold one at *
    split at ho <;> rename_i hb
    ·rw [if_pos hb];simp only [Option.bind_some, hb, if_true, Bool.false_eq_true, if_false];rw [wi64_id (by omega) (by omega), Int.add_comm]
    ·rw [if_neg hb];simp only [Option.bind_some, hb, if_false, Bool.false_eq_true];rw [wi64_id (by omega) (by omega), Int.add_comm]
  ·have f3 : ¬ (n.Op == 3) = true := by simpa using h3
   rw [if_neg f3]
   by_cases h45 : n.Op = 4 ∨ n.Op = 5
   ·obtain ⟨p1, p2, p3, p4, p5⟩ := w3 h45;have hg1 := (hw (i - 1) (by omega)).1;obtain ⟨a, a1, a2, a3, a4⟩ := ih (g (i - 1) - 1) (by omega) (by omega);obtain ⟨b, b1, b2, b3, b4⟩ := ih (i - 1) (by omega) (by omega);have oa := one_le a (br n.Op (gt c ((g (i - 1) - 1 : Nat) : Int)).Op false);have ob := one_le b (br n.Op (gt c ((i - 1 : Nat) : Int)).Op true)
    have eb : ((if (n.Op == 4) = true then some true else if (n.Op == 5) = true then some true else some false) : Option Bool) = some true := by
     rcases h45 with h | h <;> rw [h] <;> rfl
    rw [eb];simp only [Option.bind_eq_bind, Option.bind_some, if_true, p4, p2];rw [part_p n false (by omega) a1 (by omega), part_p n true (by omega) b1 (by omega)];simp only [Option.bind_some];refine ⟨_, rfl, ?_, ?_, ?_⟩
    ·have ga := gt_in (c := c) (show g (i - 1) - 1 < c.length by omega);have gb := gt_in (c := c) (show i - 1 < c.length by omega);have wa : IntKind.i64.wrap (a + 1) = a + 1 := wi64_id (by omega) (by omega);have wb : IntKind.i64.wrap (b + 1) = b + 1 := wi64_id (by omega) (by omega);simp only [a2, b2, Option.bind_some, if_pos ga, if_pos gb, br_d, if_neg f3, wa, wb];generalize br n.Op (gt c ((g (i - 1) - 1 : Nat) : Int)).Op false = x;generalize br n.Op (gt c ((i - 1 : Nat) : Int)).Op true = y
     clear ga gb oa ob
     cases x <;> cases y <;> simp [one]
    ·unfold bmax; split <;> omega
    ·unfold bmax; split <;> omega
   ·have h4 : ¬ (n.Op == 4) = true := by simp; exact fun h => h45 (.inl h)
    have h5 : ¬ (n.Op == 5) = true := by simp; exact fun h => h45 (.inr h)
    simp only [if_neg f3, if_neg h4, if_neg h5, Option.bind_eq_bind, Option.bind_some, Bool.false_eq_true, if_false];exact ⟨0, rfl, rfl, Int.le_refl _, by omega⟩
theorem check_pd (c : List api_Node) : ∃ e, cond_Check.f c = some e ∧ weirref06_Check.f c = some e ∧ (e = 0 → 1 ≤ c.length ∧ c.length ≤ 1024 ∧ ∃ g, Wf c g c.length ∧ g (c.length - 1) = 0 ∧ ∀ j, j < c.length → fd (gt c (j : Int)) = true) := by
 obtain ⟨b, h1, h2, h3⟩ := makes_pd c;unfold cond_Check.f weirref06_Check.f;rw [h1, h2];simp only [Option.bind_eq_bind, Option.bind_some];cases b
 ·exact ⟨60, rfl, rfl, fun h => by cases h⟩
 ·obtain ⟨k1, k2, g, k3, k4, k5⟩ := h3 rfl;have hf := fuelN_ge;obtain ⟨d, d1, d2, d3, d4⟩ := deep_pd k3 k2 fuelN (c.length - 1) (by omega) (by omega);rw [wsub1 (by omega) (by omega), d1, d2];simp only [Bool.not_true, Bool.false_eq_true, if_false, Option.bind_some]
  by_cases h : d > 64
  ·exact ⟨2, by rw [if_pos (decide_eq_true h)], by rw [if_pos (decide_eq_true h)], fun h => by cases h⟩
  ·exact ⟨0, by rw [if_neg (nt (decide_eq_false h))], by rw [if_neg (nt (decide_eq_false h))], fun _ => ⟨k1, k2, g, k3, k4, k5⟩⟩
end Go.Proofs.YtcjaknnihjcajaaGreat.K
