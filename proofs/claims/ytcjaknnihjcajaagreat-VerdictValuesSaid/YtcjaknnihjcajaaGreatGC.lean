/- Programs: when one is right; its names; a final state's value. -/
import Derived.Test.YtcjaknnihjcajaaGreatGB
namespace Go.Proofs.YtcjaknnihjcajaaGreat.K
open Go
theorem seaB {β : Type} {b : Nat → Bool} {e0 : β} (n : Nat) : sea (fun k => if b k = true then some e0 else none) n 0 = if ((List.range n).any b) = true then some e0 else none := by
 have hg : ∀ j e, (if b j = true then some e0 else none) = some e → e = e0 := by
  intro j e h; split at h
  ·exact (Option.some.inj h).symm
  ·cases h
 rw [@sea_one _ _ _ hg _ _ (Classical.propDecidable _)]
 by_cases h : ((List.range n).any b) = true
 ·rw [if_pos h];obtain ⟨j, h1, h2⟩ := List.any_eq_true.1 h;exact if_pos ⟨j, by omega, by have := List.mem_range.1 h1; omega, by rw [if_pos h2]; simp⟩
 ·rw [if_neg h];refine if_neg ?_;rintro ⟨j, -, h2, h3⟩
  by_cases hb : b j = true
  ·exact h (List.any_eq_true.2 ⟨j, List.mem_range.2 (by omega), hb⟩)
  ·exact h3 (if_neg hb)
theorem any_or {α : Type} (p q : α → Bool) : ∀ l : List α, l.any (fun a => p a || q a) = (l.any p || l.any q)
 | [] => rfl
 | a :: l => by simp only [List.any_cons, any_or p q l]; cases p a <;> cases q a <;> cases l.any p <;> cases l.any q <;> rfl
def big : Nat := 4611686018427387904
def badb (l : List ByteArray) (k : Nat) : Bool := decide (0 < k) && !slt (gt l ((k - 1 : Nat) : Int)) (gt l (k : Int))
def rzb (l : List ByteArray) : Bool := !(List.range l.length).any (badb l)
def alb (f : ByteArray → Bool) (l : List ByteArray) : Bool := !(List.range l.length).any fun k => !f (gt l (k : Int))
theorem rises_g {f : ByteArray → Bool} {F : Int → Option (Sum Unit Bool)} {ff : ByteArray → Option Bool} {l : List ByteArray} (hl : l.length ≤ big) (hf : ∀ s, ff s = some (f s))
  (hF : ∀ t, F t = (if (decide (t < (l.length : Int))) = true then (if 0 ≤ t ∧ t < (l.length : Int) then (if (decide (t > 0)) = true then (if 0 ≤ (IntKind.i64.wrap (t - 1)) ∧ (IntKind.i64.wrap (t - 1)) < (l.length : Int) then (if (!Op.bytesLess (gt l (IntKind.i64.wrap (t - 1))).toList (gt l t).toList) = true then some (.inr (false)) else (ff (gt l t) >>= (fun t45 => (if (!t45) = true then some (.inr (false)) else (F (IntKind.i64.wrap (t + 1))))))) else none) else (ff (gt l t) >>= (fun t56 => (if (!t56) = true then some (.inr (false)) else (F (IntKind.i64.wrap (t + 1))))))) else none) else some (.inl ()))) :
  (F 0 >>= (fun | .inl () => some (true) | .inr e => some e)) = some (rzb l && alb f l) := by
 unfold big at hl;have h := loopS0 (F := F) (g := fun k => if (badb l k || !f (gt l (k : Int))) = true then some false else none) (N := l.length) hl (fun k hk => by
  rw [hF, if_pos (dT (by omega)), if_pos (by omega), hf];simp only [Option.bind_eq_bind, Option.bind_some];unfold badb slt
  by_cases h0 : 0 < k
  ·rw [if_pos (dT (by omega)), wsub1 h0 (by omega), if_pos (by omega), dT h0]
   cases Op.bytesLess (gt l ((k - 1 : Nat) : Int)).toList (gt l (k : Int)).toList <;> cases f (gt l (k : Int)) <;> rfl
  ·rw [if_neg (dF (by omega)), decide_eq_false h0]
   cases f (gt l (k : Int)) <;> rfl) (by rw [hF, if_neg (dF (by omega))])
 rw [h, seaB, any_or];unfold rzb alb
 cases (List.range l.length).any (badb l) <;> cases (List.range l.length).any (fun k => !f (gt l (k : Int))) <;> rfl
theorem rises_p (l : List ByteArray) (hl : l.length ≤ big) : prog_rises.f l = some (rzb l && alb isReg l) := by
 unfold prog_rises.f;exact rises_g hl reg_p (fun t => by rw [prog_rises.l0])
theorem rises_p1 (l : List ByteArray) (hl : l.length ≤ big) : prog_rises_1.f l = some (rzb l && alb isName l) := by
 unfold prog_rises_1.f;exact rises_g hl name_p (fun t => by rw [prog_rises_1.l0])
theorem rises_d (l : List ByteArray) (hl : l.length ≤ big) : weirref09_rises.f l = some (rzb l) := by
 unfold big at hl;unfold weirref09_rises.f
 have h0 : weirref09_rises.l0 l (l.length : Int) = some (.inl ()) := by rw [weirref09_rises.l0, if_neg (dF (by omega))]
 have h1 : ∀ k, k < l.length → 0 < k → weirref09_rises.l0 l (k : Int) = match (if badb l k = true then some false else none) with | some e => some (.inr e) | none => weirref09_rises.l0 l (IntKind.i64.wrap ((k : Int) + 1)) := by
  intro k hk hk0;rw [weirref09_rises.l0, if_pos (dT (by omega)), wsub1 hk0 (by omega), if_pos (by omega), if_pos (by omega)];unfold badb slt;rw [dT hk0]
  cases Op.bytesLess (gt l ((k - 1 : Nat) : Int)).toList (gt l (k : Int)).toList <;> rfl
 have key : ∀ n k, k + n = l.length → 0 < k → weirref09_rises.l0 l (k : Int) = some (outs (sea (fun k => if badb l k = true then some false else none) n k)) := by
  intro n
  induction n with
  | zero => intro k hk _; rw [show k = l.length by omega, h0]; rfl
  | succ n ih =>
   intro k hk hk0;rw [h1 k (by omega) hk0];unfold sea
   cases (if badb l k = true then some false else none) with
   | some e => rfl
   | none => simp only; rw [w1 (by omega), ih (k + 1) (by omega) (by omega)]
 cases hn : l.length with
 | zero =>
  rw [weirref09_rises.l0, if_neg (dF (by omega))];unfold rzb; rw [hn]; rfl
 | succ n =>
  have h2 := key n 1 (by omega) (by omega)
  have h3 : sea (fun k => if badb l k = true then some false else none) n 1 = sea (fun k => if badb l k = true then some false else none) (n + 1) 0 := by
   conv => rhs; unfold sea
   rw [show badb l 0 = false from rfl]; rfl
  rw [h3, seaB] at h2;rw [show (1 : Int) = ((1 : Nat) : Int) from rfl, h2];unfold rzb; rw [hn]
  cases (List.range (n + 1)).any (badb l) <;> rfl
theorem number_d (l : List ByteArray) (s : ByteArray) (hl : l.length ≤ big) : weirref09_number.f l s = some (match sea (fun k => if decide (gt l (k : Int) = s) = true then some (k : Int) else none) l.length 0 with | some e => e | none => -1) := by
 unfold big at hl;unfold weirref09_number.f;rw [loopS0 (F := weirref09_number.l0 l s) (g := fun k => if decide (gt l (k : Int) = s) = true then some (k : Int) else none) (N := l.length) hl (fun k hk => by
  rw [weirref09_number.l0, if_pos (dT (by omega)), if_pos (by omega), seq_p]
  by_cases h : decide (gt l (k : Int) = s) = true
  ·rw [if_pos h]; simp only [h, if_true]
  ·rw [if_neg h]; simp only [h, if_false]; rfl) (by rw [weirref09_number.l0, if_neg (dF (by omega))])]
 cases sea (fun k => if decide (gt l (k : Int) = s) = true then some (k : Int) else none) l.length 0 <;> rfl
theorem number_s (l : List ByteArray) (s : ByteArray) (hl : l.length ≤ big) : (∃ i : Nat, i < l.length ∧ gt l (i : Int) = s ∧ weirref09_number.f l s = some (i : Int)) ∨ (s ∉ l ∧ weirref09_number.f l s = some (-1)) := by
 rw [number_d l s hl]
 cases h : sea (fun k => if decide (gt l (k : Int) = s) = true then some (k : Int) else none) l.length 0 with
 | some e =>
  obtain ⟨j, -, h2, h3, -⟩ := sea_mem h
  left
  split at h3
  ·rename_i hd
   cases h3;exact ⟨j, by omega, of_decide_eq_true hd, rfl⟩
  ·cases h3
 | none =>
  right
  refine ⟨fun hm => ?_, rfl⟩;obtain ⟨i, hi, hs⟩ := List.mem_iff_getElem.1 hm;have := sea_none.1 h i (by omega) (by omega);rw [gt_nat hi, dT hs] at this;cases this
end Go.Proofs.YtcjaknnihjcajaaGreat.K
