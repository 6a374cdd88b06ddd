/- All tokens of a text, as the document has them. -/
import Derived.Test.YtboejepakdnbgaaGreatDoorLF
import Derived.Test.YtboejepakdnbgaaGreatDoorWD
set_option linter.unusedVariables false
set_option linter.unusedSimpArgs false
namespace Go.Proofs.YtboejepakdnbgaaGreatDoor.K
open Go

def tks (s : ByteArray) : Nat → Nat → List api_Token × Option (Int × Nat)
  | 0, _ => ([], none)
  | n + 1, a => match nxE s a with
    | .inl (c, p) => ([], some (c, p))
    | .inr (t, e) => if t.Kind = 0 then ([], none) else (t :: (tks s n e).1, (tks s n e).2)
theorem tks_s (s : ByteArray) (n a : Nat) : tks s (n + 1) a = match nxE s a with
    | .inl (c, p) => ([], some (c, p))
    | .inr (t, e) => if t.Kind = 0 then ([], none) else (t :: (tks s n e).1, (tks s n e).2) := rfl
def flt (s : ByteArray) : Option (Int × Nat) → weirref05_Fault
  | none => ⟨0, 0, 0⟩
  | some (c, p) => ⟨(plc s p).1, (plc s p).2, c⟩
theorem toks_l (s : ByteArray) (hs : s.size ≤ 1048576) : ∀ (n a k : Nat) (acc : List api_Token), a ≤ s.size → k ≤ a → s.size < a + n → acc.length ≤ a →
    weirref05_Tokens.l0 acc ⟨s, a, ⟨0, 0, 0⟩, (k : Int), (plc s k).1, (plc s k).2⟩ = some (acc ++ (tks s n a).1, flt s (tks s n a).2) ∧ ((tks s n a).1.length ≤ s.size - a ∧ ∀ c p, (tks s n a).2 = some (c, p) → c ≠ 0 ∧ p ≤ s.size) := by
  intro n
  induction n with
  | zero => intro a k acc h1 h2 h3; omega
  | succ n ih =>
    intro a k acc h1 h2 h3 h4
    have hd := dnext s hs a k h1 h2
    rw [tks_s]
    cases hx : nxE s a with
    | inl x =>
      obtain ⟨c, p⟩ := x
      obtain ⟨hc, hp, L, hL⟩ := hd.1 c p hx
      refine ⟨?_, by simp only [List.length_nil]; omega, fun c' p' h => by cases h; exact ⟨hc, hp⟩⟩
      rw [weirref05_Tokens.l0, hL]
      simp only [Option.bind_eq_bind, Option.bind_some]
      rw [if_pos (by rw [bne_iff_ne]; exact hc), List.append_nil]; rfl
    | inr x =>
      obtain ⟨t, e⟩ := x
      obtain ⟨he1, he2, he3, k', hk', hL⟩ := hd.2 t e hx
      simp only
      by_cases hk : t.Kind = 0
      · rw [if_pos hk]
        refine ⟨?_, by simp only [List.length_nil]; omega, fun c' p' h => (by cases h)⟩
        rw [weirref05_Tokens.l0, hL]
        simp only [Option.bind_eq_bind, Option.bind_some]
        rw [if_neg (by decide), if_pos (by rw [beq_iff_eq]; exact hk), List.append_nil]; rfl
      · rw [if_neg hk]
        have hae := he3.resolve_left hk
        obtain ⟨i1, i2, i3⟩ := ih e k' (acc ++ [t]) he2 hk' (by omega) (by rw [List.length_append, List.length_singleton]; omega)
        refine ⟨?_, by simp only [List.length_cons]; omega, i3⟩
        rw [weirref05_Tokens.l0, hL]
        simp only [Option.bind_eq_bind, Option.bind_some]
        rw [if_neg (by decide), if_neg (by rw [beq_iff_eq]; exact hk), if_pos (by rw [List.length_singleton]; omega), i1, List.append_assoc]; rfl
end Go.Proofs.YtboejepakdnbgaaGreatDoor.K
