/- Loops that look for something; registers' names; kinds of instructions. -/
import Derived.Test.YtcjaknnihjcajaaGreatVC
import Derived.Test.YtcjaknnihjcajaaGreatGA
namespace Go.Proofs.YtcjaknnihjcajaaGreat.K
open Go
def outs {β : Type} : Option β → Sum Unit β
 | some e => .inr e
 | none => .inl ()
def sea {β : Type} (g : Nat → Option β) : Nat → Nat → Option β
 | 0, _ => none
 | n + 1, k => match g k with
  | some e => some e
  | none => sea g n (k + 1)
theorem loopS {β : Type} {F : Int → Option (Sum Unit β)} {g : Nat → Option β} {N : Nat} (hN : N ≤ 4611686018427387904)
  (h1 : ∀ k, k < N → F (k : Int) = match g k with | some e => some (.inr e) | none => F (IntKind.i64.wrap ((k : Int) + 1))) (h0 : F (N : Int) = some (.inl ())) :
  ∀ n k, k + n = N → F (k : Int) = some (outs (sea g n k)) := by
 intro n
 induction n with
 | zero => intro k hk; rw [show k = N by omega, h0]; rfl
 | succ n ih =>
  intro k hk;rw [h1 k (by omega)];unfold sea
  cases g k with
  | some e => rfl
  | none => simp only; rw [w1 (by omega), ih (k + 1) (by omega)]
theorem loopS0 {β : Type} {F : Int → Option (Sum Unit β)} {g : Nat → Option β} {N : Nat} (hN : N ≤ 4611686018427387904)
  (h1 : ∀ k, k < N → F (k : Int) = match g k with | some e => some (.inr e) | none => F (IntKind.i64.wrap ((k : Int) + 1))) (h0 : F (N : Int) = some (.inl ())) :
  F 0 = some (outs (sea g N 0)) := loopS hN h1 h0 N 0 (by omega)
theorem sea_none {β : Type} {g : Nat → Option β} : ∀ {n k : Nat}, sea g n k = none ↔ ∀ j, k ≤ j → j < k + n → g j = none
 | 0, k => by simp [sea]; intro j h1 h2; omega
 | n + 1, k => by
  unfold sea
  cases h : g k with
  | some e => simp; exact ⟨k, by omega, by omega, by rw [h]; simp⟩
  | none =>
   simp only;rw [sea_none];constructor
   ·intro hh j h1 h2
    by_cases e : j = k
    ·rw [e]; exact h
    ·exact hh j (by omega) (by omega)
   ·intro hh j h1 h2; exact hh j (by omega) (by omega)
theorem sea_mem {β : Type} {g : Nat → Option β} {e : β} : ∀ {n k : Nat}, sea g n k = some e → ∃ j, k ≤ j ∧ j < k + n ∧ g j = some e ∧ ∀ i, k ≤ i → i < j → g i = none
 | 0, k, h => by cases h
 | n + 1, k, h => by
  unfold sea at h
  cases hk : g k with
  | some e' => rw [hk] at h; simp only [Option.some.injEq] at h; subst h; exact ⟨k, by omega, by omega, hk, fun i h1 h2 => by omega⟩
  | none =>
   rw [hk] at h;obtain ⟨j, h1, h2, h3, h4⟩ := sea_mem h;exact ⟨j, by omega, by omega, h3, fun i h5 h6 => by
    by_cases e : i = k
    ·rw [e]; exact hk
    ·exact h4 i (by omega) h6⟩
theorem sea_one {β : Type} {g : Nat → Option β} {e0 : β} (hg : ∀ j e, g j = some e → e = e0) (n k : Nat) [Decidable (∃ j, k ≤ j ∧ j < k + n ∧ g j ≠ none)] : sea g n k = if ∃ j, k ≤ j ∧ j < k + n ∧ g j ≠ none then some e0 else none := by
 split
 ·rename_i h
  obtain ⟨j, h1, h2, h3⟩ := h
  cases hs : sea g n k with
  | none => exact absurd (sea_none.1 hs j h1 h2) h3
  | some e =>
   obtain ⟨j', -, -, h4, -⟩ := sea_mem hs;rw [hg j' e h4]
 ·rename_i h
  rw [sea_none];intro j h1 h2
  cases hj : g j with
  | none => rfl
  | some e => exact absurd ⟨j, h1, h2, by rw [hj]; simp⟩ h
theorem dT {p : Prop} [Decidable p] (h : p) : decide p = true := decide_eq_true h
theorem dF {p : Prop} [Decidable p] (h : ¬ p) : ¬ decide p = true := by simpa using h
def regs16 : List ByteArray := [⟨#[69,65,88]⟩, ⟨#[69,66,88]⟩, ⟨#[69,67,88]⟩, ⟨#[69,68,88]⟩, ⟨#[69,83,73]⟩, ⟨#[69,68,73]⟩, ⟨#[69,66,80]⟩, ⟨#[69,83,80]⟩, ⟨#[82,56]⟩, ⟨#[82,57]⟩, ⟨#[82,49,48]⟩, ⟨#[82,49,49]⟩, ⟨#[82,49,50]⟩, ⟨#[82,49,51]⟩, ⟨#[82,49,52]⟩, ⟨#[82,49,53]⟩]
def isReg (s : ByteArray) : Bool := regs16.any fun r => decide (r = s)
theorem isReg_iff {s : ByteArray} : isReg s = true ↔ s ∈ regs16 := by
 unfold isReg;rw [List.any_eq_true];constructor
 ·rintro ⟨r, h1, h2⟩; rw [decide_eq_true_eq] at h2; exact h2 ▸ h1
 ·exact fun h => ⟨s, h, dT rfl⟩
theorem isReg_no {s : ByteArray} (h : s ∉ regs16) : isReg s = false := by
 cases hb : isReg s with
 | false => rfl
 | true => exact absurd (isReg_iff.1 hb) h
theorem reg_p (s : ByteArray) : prog_Register.f s = some (isReg s) := by
 unfold prog_Register.f;simp only [seq_p, decide_eq_true_eq]
 by_cases h : s ∈ regs16
 ·rw [show isReg s = true from isReg_iff.2 h];simp only [regs16, List.mem_cons, List.not_mem_nil, or_false] at h
  rcases h with h | h | h | h | h | h | h | h | h | h | h | h | h | h | h | h <;> subst h <;> decide +kernel
 ·rw [show isReg s = false from isReg_no h];simp only [regs16, List.mem_cons, List.not_mem_nil, or_false, not_or] at h;obtain ⟨h1, h2, h3, h4, h5, h6, h7, h8, h9, h10, h11, h12, h13, h14, h15, h16⟩ := h;simp only [h1, h2, h3, h4, h5, h6, h7, h8, h9, h10, h11, h12, h13, h14, h15, h16, if_false];rfl
theorem reg_d (s : ByteArray) : weirref09_Register.f s = some (isReg s) := by
 have hv : ∀ k : Fin 16, vget (vset (vset (vset (vset (vset (vset (vset (vset (vset (vset (vset (vset (vset (vset (vset (vset (Vector.replicate 16 (⟨#[]⟩ : ByteArray)) 0 (⟨#[69,65,88]⟩ : ByteArray)) 1 (⟨#[69,66,88]⟩ : ByteArray)) 2 (⟨#[69,67,88]⟩ : ByteArray)) 3 (⟨#[69,68,88]⟩ : ByteArray)) 4 (⟨#[69,83,73]⟩ : ByteArray)) 5 (⟨#[69,68,73]⟩ : ByteArray)) 6 (⟨#[69,66,80]⟩ : ByteArray)) 7 (⟨#[69,83,80]⟩ : ByteArray)) 8 (⟨#[82,56]⟩ : ByteArray)) 9 (⟨#[82,57]⟩ : ByteArray)) 10 (⟨#[82,49,48]⟩ : ByteArray)) 11 (⟨#[82,49,49]⟩ : ByteArray)) 12 (⟨#[82,49,50]⟩ : ByteArray)) 13 (⟨#[82,49,51]⟩ : ByteArray)) 14 (⟨#[82,49,52]⟩ : ByteArray)) 15 (⟨#[82,49,53]⟩ : ByteArray)) (k.1 : Int) = regs16.getD k.1 ⟨#[]⟩ := by decide +kernel
 have hl := loopS0 (F := weirref09_Register.l0 s) (g := fun k => if decide (regs16.getD k ⟨#[]⟩ = s) = true then some true else none) (N := 16) (by omega) (fun k hk => by
  rw [weirref09_Register.l0, if_pos (dT (by omega)), if_pos (by omega), hv ⟨k, hk⟩, seq_p]
  by_cases h : decide (regs16.getD k ⟨#[]⟩ = s) = true
  ·rw [if_pos h]; simp only [h, if_true]
  ·rw [if_neg h]; simp only [h, if_false]; rfl) (by rw [weirref09_Register.l0, if_neg (dF (by decide))])
 unfold weirref09_Register.f;rw [hl];simp only [Option.bind_eq_bind, Option.bind_some]
 have hg : ∀ j e, (if decide (regs16.getD j ⟨#[]⟩ = s) = true then some true else none) = some e → e = true := by
  intro j e h; split at h
  ·exact (Option.some.inj h).symm
  ·cases h
 rw [@sea_one _ _ _ hg _ _ (Classical.propDecidable _)]
 by_cases h : s ∈ regs16
 ·obtain ⟨i, hi, hs⟩ := List.mem_iff_getElem.1 h;rw [if_pos ⟨i, by omega, by simpa [regs16] using hi, by rw [List.getD_eq_getElem?_getD, List.getElem?_eq_getElem hi, Option.getD_some, hs]; simp⟩, show isReg s = true from isReg_iff.2 h]; rfl
 ·rw [if_neg ?_, show isReg s = false from isReg_no h]
  ·rfl
  ·rintro ⟨j, -, h2, h3⟩;refine h3 (if_neg (dF ?_));intro e
   have hj : j < regs16.length := by simp [regs16]; omega
   rw [List.getD_eq_getElem?_getD, List.getElem?_eq_getElem hj, Option.getD_some] at e;exact h (e ▸ List.getElem_mem hj)
def kd (a : Int) : prog_uses × Bool := (prog_kind.f a).getD (⟨false, false, false, false, 0⟩, false)
theorem kinds (a : Int) : a = 1 ∨ a = 2 ∨ a = 3 ∨ a = 4 ∨ a = 5 ∨ a = 6 ∨ a = 7 ∨ a = 8 ∨ a = 9 ∨ (a < 1 ∨ 9 < a) := by omega
theorem bne_i {a i : Int} (h : a ≠ i) : (a == i) = false := by simpa using h
theorem no_kind {a : Int} (h : a < 1 ∨ 9 < a) : prog_kind.f a = some (⟨false, false, false, false, 0⟩, false) ∧ weirref09_uses.f a = some (false, false, false, false) ∧ weirref09_weight.f a = some 0 := by
 have e : ∀ i : Int, 1 ≤ i → i ≤ 9 → (a == i) = false := fun i h1 h2 => bne_i (by omega);unfold prog_kind.f weirref09_uses.f weirref09_weight.f;simp only [e 1 (by omega) (by omega), e 2 (by omega) (by omega), e 3 (by omega) (by omega), e 4 (by omega) (by omega), e 5 (by omega) (by omega), e 6 (by omega) (by omega), e 7 (by omega) (by omega), e 8 (by omega) (by omega), e 9 (by omega) (by omega)];exact ⟨rfl, rfl, rfl⟩
theorem kind_p (a : Int) : prog_kind.f a = some (kd a) := by
 rcases kinds a with h | h | h | h | h | h | h | h | h | h
 all_goals first | (subst h; rfl) | (unfold kd; rw [(no_kind h).1]; rfl)
theorem uses_d (a : Int) : weirref09_uses.f a = some ((kd a).1.reg, (kd a).1.src, (kd a).1.loc, (kd a).1.imm) := by
 rcases kinds a with h | h | h | h | h | h | h | h | h | h
 all_goals first | (subst h; rfl) | (unfold kd; rw [(no_kind h).1, (no_kind h).2.1]; rfl)
theorem weight_d (a : Int) : weirref09_weight.f a = some (kd a).1.events := by
 rcases kinds a with h | h | h | h | h | h | h | h | h | h
 all_goals first | (subst h; rfl) | (unfold kd; rw [(no_kind h).1, (no_kind h).2.2]; rfl)
theorem kd_ok (a : Int) : (kd a).2 = decide (1 ≤ a ∧ a ≤ 9) := by
 rcases kinds a with h | h | h | h | h | h | h | h | h | h
 all_goals first | (subst h; rfl) | (unfold kd; rw [(no_kind h).1, decide_eq_false (by omega)]; rfl)
def fm (x : api_Instr) : Int := (prog_formed.f x).getD 0
theorem form_pd (x : api_Instr) : prog_formed.f x = some (fm x) ∧ weirref09_form.f x = some (fm x) := by
 have key : ∃ e, prog_formed.f x = some e ∧ weirref09_form.f x = some e := by
  unfold prog_formed.f weirref09_form.f;rw [kind_p, uses_d];simp only [reg_p, reg_d, name_p, name_d, Option.bind_eq_bind, Option.bind_some];have hk := kd_ok x.Op;generalize hq : kd x.Op = q at hk ⊢;obtain ⟨⟨r, s, l, m, ev⟩, ok⟩ := q;simp only at hk ⊢;generalize (!seq x.Reg (⟨#[]⟩ : ByteArray)) = b1;generalize (!seq x.Src (⟨#[]⟩ : ByteArray)) = b2;generalize (!seq x.Loc (⟨#[]⟩ : ByteArray)) = b3;generalize (x.Imm != 0) = b4;generalize isReg x.Reg = b5;generalize isReg x.Src = b6;generalize isName x.Loc = b7
  by_cases ho : 1 ≤ x.Op ∧ x.Op ≤ 9
  ·rw [dT ho] at hk;subst hk;rw [if_neg (dF (by omega)), if_neg (dF (by omega))]
   cases r <;> cases s <;> cases l <;> cases m <;> cases b1 <;> cases b2 <;> cases b3 <;> cases b4 <;> first | exact ⟨_, rfl, rfl⟩ | (cases b5 <;> cases b6 <;> cases b7 <;> exact ⟨_, rfl, rfl⟩)
  ·rw [decide_eq_false ho] at hk;subst hk;refine ⟨93, rfl, ?_⟩
   by_cases h1 : x.Op < 1
   ·rw [if_pos (dT h1)]
   ·rw [if_neg (dF h1), if_pos (dT (by omega))]
 obtain ⟨e, h1, h2⟩ := key
 have : fm x = e := by unfold fm; rw [h1]; rfl
 rw [this]; exact ⟨h1, h2⟩
end Go.Proofs.YtcjaknnihjcajaaGreat.K
