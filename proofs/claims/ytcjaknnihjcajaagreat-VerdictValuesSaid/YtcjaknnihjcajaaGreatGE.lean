/- Programs: Valid, Events, Names, Index; a final state's value. -/
import Derived.Test.YtcjaknnihjcajaaGreatGD
import Derived.Test.YtcjaknnihjcajaaGreatPF
namespace Go.Proofs.YtcjaknnihjcajaaGreat.K
open Go
def evK (f : Nat → Int) : Nat → Nat → Int → Int
 | 0, _, a => a
 | n + 1, k, a => evK f n (k + 1) (IntKind.i64.wrap (a + (kd (f k)).1.events))
theorem events_pl (p : api_Prog) (t : Nat) (hl : (gt p.Threads (t : Int)).length ≤ big) : ∀ (n k : Nat) (a : Int), k + n = (gt p.Threads (t : Int)).length →
  prog_Events.l1 p (t : Int) a (k : Int) = some (evK (fun k => (gt (gt p.Threads (t : Int)) (k : Int)).Kind) n k a) := by
 unfold big at hl;intro n
 induction n with
 | zero => intro k a hk; rw [prog_Events.l1, if_neg (dF (by omega))]; rfl
 | succ n ih =>
  intro k a hk;rw [prog_Events.l1, if_pos (dT (by omega)), if_pos (by omega), kind_p];simp only [Option.bind_eq_bind, Option.bind_some];rw [w1 (by omega), ih (k + 1) _ (by omega)]
  try rfl
theorem events_dl (p : api_Prog) (t : Nat) (ht : t < p.Threads.length) (hl : (gt p.Threads (t : Int)).length ≤ big) : ∀ (n k : Nat) (a : Int), k + n = (gt p.Threads (t : Int)).length →
  weirref09_Events.l1 p (t : Int) a (k : Int) = some (evK (fun k => (gt (gt p.Threads (t : Int)) (k : Int)).Kind) n k a) := by
 unfold big at hl;intro n
 induction n with
 | zero => intro k a hk; rw [weirref09_Events.l1, if_pos (by omega), if_neg (dF (by omega))]; rfl
 | succ n ih =>
  intro k a hk;rw [weirref09_Events.l1, if_pos (by omega), if_pos (dT (by omega)), if_pos (by omega), if_pos (by omega), weight_d];simp only [Option.bind_eq_bind, Option.bind_some];rw [w1 (by omega), ih (k + 1) _ (by omega)]
  try rfl
def evB (f : Nat → Nat → Int) (ln : Nat → Nat) : Nat → Nat → Int → Int
 | 0, _, a => a
 | n + 1, k, a => evB f ln n (k + 1) (evK (f k) (ln k) 0 a)
theorem events_pd (p : api_Prog) (h1 : p.Threads.length ≤ big) (h2 : ∀ t, t < p.Threads.length → (gt p.Threads (t : Int)).length ≤ big) : ∃ e, prog_Events.f p = some e ∧ weirref09_Events.f p = some e := by
 unfold big at h1;have key : ∀ (n k : Nat) (a : Int), k + n = p.Threads.length → prog_Events.l0 p a (k : Int) = some (evB (fun t k => (gt (gt p.Threads (t : Int)) (k : Int)).Kind) (fun t => (gt p.Threads (t : Int)).length) n k a) ∧
   weirref09_Events.l0 p a (k : Int) = some (evB (fun t k => (gt (gt p.Threads (t : Int)) (k : Int)).Kind) (fun t => (gt p.Threads (t : Int)).length) n k a) := by
  intro n
  induction n with
  | zero => intro k a hk; rw [prog_Events.l0, weirref09_Events.l0, if_neg (dF (by omega)), if_neg (dF (by omega))]; exact ⟨rfl, rfl⟩
  | succ n ih =>
   intro k a hk;have q1 : prog_Events.l1 p (k : Int) a 0 = _ := events_pl p k (h2 k (by omega)) (gt p.Threads (k : Int)).length 0 a (by omega);have q2 : weirref09_Events.l1 p (k : Int) a 0 = _ := events_dl p k (by omega) (h2 k (by omega)) (gt p.Threads (k : Int)).length 0 a (by omega);rw [prog_Events.l0, weirref09_Events.l0, if_pos (dT (by omega)), if_pos (by omega), if_pos (dT (by omega)), q1, q2];simp only [Option.bind_eq_bind, Option.bind_some];rw [w1 (by omega)];exact ih (k + 1) _ (by omega)
 obtain ⟨q1, q2⟩ := key p.Threads.length 0 (p.Locs.length : Int) (by omega);unfold prog_Events.f weirref09_Events.f;rw [show (0 : Int) = ((0 : Nat) : Int) from rfl, q1, q2];exact ⟨_, rfl, rfl⟩
structure Sized (p : api_Prog) : Prop where
 th : p.Threads.length ≤ big
 ops : ∀ t, t < p.Threads.length → (gt p.Threads (t : Int)).length ≤ big
 rg : p.Regs.length ≤ big
 nms : ∀ t, t < p.Regs.length → (gt p.Regs (t : Int)).length ≤ big
 lc : p.Locs.length ≤ big
structure Vok (p : api_Prog) : Prop where
 th : p.Threads.length ≤ 4
 rg : p.Regs.length = p.Threads.length
 nms : ∀ t, t < p.Regs.length → (gt p.Regs (t : Int)).length ≤ 8
 lc : p.Locs.length ≤ 16
def rbad (p : api_Prog) (k : Nat) : Bool := decide ((gt p.RegInit (k : Int)).length ≠ (gt p.Regs (k : Int)).length) || !(rzb (gt p.Regs (k : Int)) && alb isReg (gt p.Regs (k : Int)))
theorem len_ne (a b : Nat) : (((a : Int) != (b : Int)) = true) = (decide (a ≠ b) = true) := by
 by_cases h : a = b
 ·subst h; simp
 ·simp [h]; omega
theorem inner_reg (p : api_Prog) (k : Nat) (hk : k < p.Regs.length) (hl : (gt p.Regs (k : Int)).length ≤ big) : weirref09_registers.l2 p (k : Int) 0 = some (outs (if alb isReg (gt p.Regs (k : Int)) = true then none else some (.inr 92))) := by
 unfold big at hl;rw [loopS0 (F := weirref09_registers.l2 p (k : Int)) (g := fun j => if (!isReg (gt (gt p.Regs (k : Int)) (j : Int))) = true then some (Sum.inr 92) else none) (N := (gt p.Regs (k : Int)).length) hl (fun j hj => by
  rw [weirref09_registers.l2, if_pos (by omega), if_pos (dT (by omega)), if_pos (by omega), if_pos (by omega), reg_d];simp only [Option.bind_eq_bind, Option.bind_some]
  cases isReg (gt (gt p.Regs (k : Int)) (j : Int)) <;> rfl) (by rw [weirref09_registers.l2, if_pos (by omega), if_neg (dF (by omega))]), seaB]
 unfold alb
 cases (List.range (gt p.Regs (k : Int)).length).any (fun k_1 => !isReg (gt (gt p.Regs (k : Int)) (k_1 : Int))) <;> rfl
theorem valid_pd (p : api_Prog) (hS : Sized p) : ∃ e, prog_Valid.f p = some e ∧ weirref09_Valid.f p = some e ∧ (e = 0 → Vok p) := by
 have b0 : ∀ n : Nat, n ≤ big → n ≤ 4611686018427387904 := fun n h => h;unfold prog_Valid.f weirref09_Valid.f weirref09_registers.f
 by_cases c1 : ((p.Threads.length : Int) == 0) = true
 ·rw [if_pos c1, if_pos c1]; exact ⟨95, rfl, rfl, fun h => by omega⟩
 rw [if_neg c1, if_neg c1]
 by_cases c2 : decide ((p.Threads.length : Int) > 4) = true
 ·rw [if_pos c2, if_pos c2]; exact ⟨95, rfl, rfl, fun h => by omega⟩
 rw [if_neg c2, if_neg c2]
 have hth : p.Threads.length ≤ 4 := by rw [decide_eq_true_eq] at c2; omega
 by_cases c3 : ((p.Regs.length : Int) != (p.Threads.length : Int)) = true
 ·rw [if_pos c3, if_pos c3]; exact ⟨92, rfl, rfl, fun h => by omega⟩
 rw [if_neg c3, if_neg c3]
 have hrg : p.Regs.length = p.Threads.length := by rw [len_ne] at c3; simpa using c3
 by_cases c4 : ((p.RegInit.length : Int) != (p.Threads.length : Int)) = true
 ·rw [if_pos c4, if_pos c4]; exact ⟨92, rfl, rfl, fun h => by omega⟩
 rw [if_neg c4, if_neg c4]
 have hri : p.RegInit.length = p.Threads.length := by rw [len_ne] at c4; simpa using c4
 -- the registers
 have l0p := loopS0 (F := prog_Valid.l0 p) (g := fun k => if rbad p k = true then some 92 else none) (N := p.Regs.length) (b0 _ hS.rg) (fun k hk => by
  rw [prog_Valid.l0, if_pos (dT (by omega)), if_pos (by omega), if_pos (by omega), rises_p _ (hS.nms k hk)];simp only [Option.bind_eq_bind, Option.bind_some, len_ne];unfold rbad
  cases decide ((gt p.RegInit (k : Int)).length ≠ (gt p.Regs (k : Int)).length) <;> cases (rzb (gt p.Regs (k : Int)) && alb isReg (gt p.Regs (k : Int))) <;> rfl) (by rw [prog_Valid.l0, if_neg (dF (by omega))])
 have l0d := loopS0 (F := weirref09_registers.l0 p) (g := fun k => if rbad p k = true then some 92 else none) (N := p.Threads.length) (b0 _ hS.th) (fun k hk => by
  have hb1 : (0 : Int) ≤ (k : Int) ∧ (k : Int) < (p.RegInit.length : Int) := by omega
  have hb2 : (0 : Int) ≤ (k : Int) ∧ (k : Int) < (p.Regs.length : Int) := by omega
  rw [weirref09_registers.l0, if_pos (dT (by omega))];simp only [if_pos hb1, if_pos hb2];rw [rises_d _ (hS.nms k (by omega)), inner_reg p k (by omega) (hS.nms k (by omega))];simp only [Option.bind_eq_bind, Option.bind_some, len_ne];unfold rbad
  cases decide ((gt p.RegInit (k : Int)).length ≠ (gt p.Regs (k : Int)).length) <;> cases rzb (gt p.Regs (k : Int)) <;> cases alb isReg (gt p.Regs (k : Int)) <;> rfl) (by rw [weirref09_registers.l0, if_neg (dF (by omega))])
 rw [l0p, l0d, seaB, seaB, hrg]
 by_cases c5 : ((List.range p.Threads.length).any (rbad p)) = true
 ·rw [if_pos c5]; exact ⟨92, rfl, rfl, fun h => by omega⟩
 rw [if_neg c5];simp only [outs, Option.bind_eq_bind, Option.bind_some]
 have hrz : ∀ k, k < p.Threads.length → rzb (gt p.Regs (k : Int)) = true := by
  intro k hk;have := List.any_eq_false.1 (Bool.eq_false_iff.2 c5) k (List.mem_range.2 hk);unfold rbad at this
  cases hz : rzb (gt p.Regs (k : Int)) with
  | true => rfl
  | false => rw [hz] at this; simp at this
 have l1p := loopS0 (F := prog_Valid.l1 p) (g := fun k => if decide ((gt p.Regs (k : Int)).length > 8) = true then some 98 else none) (N := p.Regs.length) (b0 _ hS.rg) (fun k hk => by
  rw [prog_Valid.l1, if_pos (dT (by omega)), if_pos (by omega)]
  by_cases h : (gt p.Regs (k : Int)).length > 8
  ·rw [if_pos (dT (by omega)), if_pos (dT h)]
  ·rw [if_neg (dF (by omega)), if_neg (dF h)]) (by rw [prog_Valid.l1, if_neg (dF (by omega))])
 have l1d := loopS0 (F := weirref09_registers.l1 p) (g := fun k => if decide ((gt p.Regs (k : Int)).length > 8) = true then some 98 else none) (N := p.Threads.length) (b0 _ hS.th) (fun k hk => by
  rw [weirref09_registers.l1, if_pos (dT (by omega)), if_pos (by omega)]
  by_cases h : (gt p.Regs (k : Int)).length > 8
  ·rw [if_pos (dT (by omega)), if_pos (dT h)]
  ·rw [if_neg (dF (by omega)), if_neg (dF h)]) (by rw [weirref09_registers.l1, if_neg (dF (by omega))])
 rw [l1p, l1d, seaB, seaB, hrg]
 by_cases c6 : ((List.range p.Threads.length).any fun k => decide ((gt p.Regs (k : Int)).length > 8)) = true
 ·rw [if_pos c6]; exact ⟨98, rfl, rfl, fun h => by omega⟩
 rw [if_neg c6]
 have hn8 : ∀ t, t < p.Regs.length → (gt p.Regs (t : Int)).length ≤ 8 := by
  intro t ht;have := List.any_eq_false.1 (Bool.eq_false_iff.2 c6) t (List.mem_range.2 (by omega));simpa using this
 simp only [outs, Option.bind_some]
 have e0 : ¬ ((0 : Int) != 0) = true := by decide
 rw [if_neg e0, rises_p1 _ hS.lc, rises_d _ hS.lc];simp only [Option.bind_some]
 by_cases c7 : ((p.LocInit.length : Int) != (p.Locs.length : Int)) = true
 ·rw [if_pos c7, if_pos c7]; exact ⟨52, rfl, rfl, fun h => by omega⟩
 rw [if_neg c7, if_neg c7];have l0n := loopS0 (F := weirref09_Valid.l0 p) (g := fun k => if (!isName (gt p.Locs (k : Int))) = true then some 52 else none) (N := p.Locs.length) (b0 _ hS.lc) (fun k hk => by
  rw [weirref09_Valid.l0, if_pos (dT (by omega)), if_pos (by omega), name_d];simp only [Option.bind_eq_bind, Option.bind_some]
  cases isName (gt p.Locs (k : Int)) <;> rfl) (by rw [weirref09_Valid.l0, if_neg (dF (by omega))])
 rw [l0n, seaB];have ha : alb isName p.Locs = !((List.range p.Locs.length).any fun k => !isName (gt p.Locs (k : Int))) := rfl;rw [ha];cases hz : rzb p.Locs
 ·exact ⟨52, rfl, rfl, fun h => by omega⟩
 cases hz2 : ((List.range p.Locs.length).any fun k => !isName (gt p.Locs (k : Int)))
 rotate_left
 ·exact ⟨52, rfl, rfl, fun h => by omega⟩
 simp only [Bool.not_true, Bool.not_false, Bool.and_self, Bool.false_eq_true, if_false, outs, Option.bind_some]
 by_cases c8 : decide ((p.Locs.length : Int) > 16) = true
 ·rw [if_pos c8, if_pos c8]; exact ⟨97, rfl, rfl, fun h => by omega⟩
 rw [if_neg c8, if_neg c8]
 have hlc : p.Locs.length ≤ 16 := by rw [decide_eq_true_eq] at c8; omega
 -- the instructions
 have bad : Nat → Bool := fun _ => false
 have l3p : ∀ t, t < p.Threads.length → prog_Valid.l3 p (t : Int) 0 = some (outs (if ((List.range (gt p.Threads (t : Int)).length).any fun k => !rt (gt (gt p.Threads (t : Int)) (k : Int)) (gt p.Regs (t : Int)) p.Locs.length) = true then some (.inr 93) else none)) := by
  intro t ht;rw [loopS0 (F := prog_Valid.l3 p (t : Int)) (g := fun k => if (!rt (gt (gt p.Threads (t : Int)) (k : Int)) (gt p.Regs (t : Int)) p.Locs.length) = true then some (.inr 93) else none) (N := (gt p.Threads (t : Int)).length) (b0 _ (hS.ops t ht)) (fun k hk => by
   rw [prog_Valid.l3, if_pos (dT (by omega)), if_pos (by omega), if_pos (by omega), fits_p];simp only [Option.bind_eq_bind, Option.bind_some]
   cases rt (gt (gt p.Threads (t : Int)) (k : Int)) (gt p.Regs (t : Int)) p.Locs.length <;> rfl) (by rw [prog_Valid.l3, if_neg (dF (by omega))]), seaB]
 have l2d : ∀ t, t < p.Threads.length → weirref09_Valid.l2 p (t : Int) 0 = some (outs (if ((List.range (gt p.Threads (t : Int)).length).any fun k => !rt (gt (gt p.Threads (t : Int)) (k : Int)) (gt p.Regs (t : Int)) p.Locs.length) = true then some (.inr 93) else none)) := by
  intro t ht;rw [loopS0 (F := weirref09_Valid.l2 p (t : Int)) (g := fun k => if (!rt (gt (gt p.Threads (t : Int)) (k : Int)) (gt p.Regs (t : Int)) p.Locs.length) = true then some (.inr 93) else none) (N := (gt p.Threads (t : Int)).length) (b0 _ (hS.ops t ht)) (fun k hk => by
   rw [weirref09_Valid.l2, if_pos (by omega), if_pos (dT (by omega)), if_pos (by omega), if_pos (by omega), if_pos (by omega), right_d _ _ _ (hrz t ht) (hS.nms t (by omega))];simp only [Option.bind_eq_bind, Option.bind_some]
   cases rt (gt (gt p.Threads (t : Int)) (k : Int)) (gt p.Regs (t : Int)) p.Locs.length <;> rfl) (by rw [weirref09_Valid.l2, if_pos (by omega), if_neg (dF (by omega))]), seaB]
 have l2p := loopS0 (F := prog_Valid.l2 p) (g := fun t => if ((List.range (gt p.Threads (t : Int)).length).any fun k => !rt (gt (gt p.Threads (t : Int)) (k : Int)) (gt p.Regs (t : Int)) p.Locs.length) = true then some 93 else none) (N := p.Threads.length) (b0 _ hS.th) (fun t ht => by
  rw [prog_Valid.l2, if_pos (dT (by omega)), if_pos (by omega), l3p t ht]
  cases ((List.range (gt p.Threads (t : Int)).length).any fun k => !rt (gt (gt p.Threads (t : Int)) (k : Int)) (gt p.Regs (t : Int)) p.Locs.length) <;> rfl) (by rw [prog_Valid.l2, if_neg (dF (by omega))])
 have l1d2 := loopS0 (F := weirref09_Valid.l1 p) (g := fun t => if ((List.range (gt p.Threads (t : Int)).length).any fun k => !rt (gt (gt p.Threads (t : Int)) (k : Int)) (gt p.Regs (t : Int)) p.Locs.length) = true then some 93 else none) (N := p.Threads.length) (b0 _ hS.th) (fun t ht => by
  rw [weirref09_Valid.l1, if_pos (dT (by omega)), l2d t ht]
  cases ((List.range (gt p.Threads (t : Int)).length).any fun k => !rt (gt (gt p.Threads (t : Int)) (k : Int)) (gt p.Regs (t : Int)) p.Locs.length) <;> rfl) (by rw [weirref09_Valid.l1, if_neg (dF (by omega))])
 rw [l2p, l1d2, seaB]
 by_cases c9 : ((List.range p.Threads.length).any fun t => ((List.range (gt p.Threads (t : Int)).length).any fun k => !rt (gt (gt p.Threads (t : Int)) (k : Int)) (gt p.Regs (t : Int)) p.Locs.length)) = true
 ·rw [if_pos c9]; exact ⟨93, rfl, rfl, fun h => by omega⟩
 rw [if_neg c9];obtain ⟨ev, v1, v2⟩ := events_pd p hS.th hS.ops;simp only [Option.bind_some];rw [v1, v2];simp only [Option.bind_some]
 by_cases c10 : decide (ev > 64) = true
 ·rw [if_pos c10]; exact ⟨96, rfl, rfl, fun h => by omega⟩
 ·rw [if_neg c10]; exact ⟨0, rfl, rfl, fun _ => ⟨hth, hrg, hn8, hlc⟩⟩
end Go.Proofs.YtcjaknnihjcajaaGreat.K
