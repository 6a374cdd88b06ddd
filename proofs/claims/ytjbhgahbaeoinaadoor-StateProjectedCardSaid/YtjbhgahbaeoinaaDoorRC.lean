/- Strictly sorted lists; what Sort answers, in the program and in the document. -/
import Derived.Test.YtjbhgahbaeoinaaDoorRA
set_option linter.unusedVariables false
set_option linter.unusedSimpArgs false
namespace Go.Proofs.YtjbhgahbaeoinaaDoor.K
open Go

def Strict (l : List api_Final) : Prop := l.Pairwise (fun a b => cmpF a b < 0)
theorem strict_unique : ∀ {a b : List api_Final}, Strict a → Strict b → (∀ z, z ∈ a ↔ z ∈ b) → a = b
  | [], [], _, _, _ => rfl
  | [], y :: b, _, _, h => absurd ((h y).2 (by simp)) (by simp)
  | x :: a, [], _, _, h => absurd ((h x).1 (by simp)) (by simp)
  | x :: a, y :: b, ha, hb, h => by
    have ha' := List.pairwise_cons.1 ha
    have hb' := List.pairwise_cons.1 hb
    have hxy : x = y := by
      rcases List.mem_cons.1 ((h x).1 (by simp)) with e | hx
      · exact e
      · rcases List.mem_cons.1 ((h y).2 (by simp)) with e | hy
        · exact e.symm
        · have h1 := ha'.1 y hy
          have h2 := hb'.1 x hx
          have := cmpF_swap x y
          omega
    subst hxy
    rw [strict_unique ha'.2 hb'.2 (fun z => ?_)]
    constructor
    · intro hz
      rcases List.mem_cons.1 ((h z).1 (by simp [hz])) with e | hz'
      · subst e; have := ha'.1 z hz; rw [cmpF_self] at this; omega
      · exact hz'
    · intro hz
      rcases List.mem_cons.1 ((h z).2 (by simp [hz])) with e | hz'
      · subst e; have := hb'.1 z hz; rw [cmpF_self] at this; omega
      · exact hz'
theorem wsub1 {t : Nat} (h0 : 0 < t) (h : t ≤ 9223372036854775807) : IntKind.i64.wrap ((t : Int) - 1) = ((t - 1 : Nat) : Int) := by rw [wi64_id (by omega) (by omega)]; omega
theorem pw_get {l : List api_Final} (h : Strict l) {i j : Nat} (hi : i < j) (hj : j < l.length) : cmpF (l[i]'(by omega)) l[j] < 0 := List.pairwise_iff_getElem.1 h i j (by omega) hj hi

/-! ### The document's Sort -/
def z0F : api_Final := ⟨0, Vector.replicate 48 0⟩
theorem ins_eq (out : List api_Final) (f z : api_Final) (k : Nat) (hk : k ≤ out.length) :
    setl (copyv (out ++ [z]) (k + 1) ((out ++ [z]).length - (k + 1)) (((out ++ [z]).drop k).take ((out ++ [z]).length - k))) (k : Int) f = out.take k ++ f :: out.drop k := by
  have hl : (out ++ [z]).length = out.length + 1 := by simp
  unfold copyv setl
  rw [Int.toNat_natCast, hl, List.length_take, List.length_drop, hl]
  rw [show k + 1 + min (min (out.length + 1 - k) (out.length + 1 - k)) (out.length + 1 - (k + 1)) = out.length + 1 by omega, show (out ++ [z]).drop (out.length + 1) = [] from List.drop_of_length_le (by omega), List.append_nil, List.take_take,
    show min (out.length + 1 - (k + 1)) (out.length + 1 - k) = out.length - k by omega]
  have e1 : ((out ++ [z]).drop k).take (out.length - k) = out.drop k := by
    rw [List.drop_append_of_le_length hk, List.take_append_of_le_length (by simp), List.take_of_length_le (by simp)]
  have e2 : (out ++ [z]).take (k + 1) = out.take k ++ [(out ++ [z])[k]'(by omega)] := by
    rw [List.take_succ_eq_append_getElem (by omega), List.take_append_of_le_length hk]
  rw [e1, e2]
  generalize (out ++ [z])[k]'(by omega) = y
  have hlk : (out.take k).length = k := by rw [List.length_take]; omega
  rw [List.append_assoc, List.set_append_right _ _ (by omega), hlk, Nat.sub_self]
  rfl
theorem strict_ins {out : List api_Final} {f : api_Final} {k : Nat} (hk : k ≤ out.length) (ho : Strict out) (h1 : ∀ j (hj : j < out.length), k ≤ j → 0 < cmpF out[j] f) (h2 : ∀ h : 0 < k, cmpF (out[k - 1]'(by omega)) f < 0) : Strict (out.take k ++ f :: out.drop k) := by
  have hlo : ∀ x ∈ out.take k, cmpF x f < 0 := by
    intro x hx
    obtain ⟨j, hj, rfl⟩ := List.mem_iff_getElem.1 hx
    rw [List.length_take] at hj
    rw [List.getElem_take]
    have hkp : 0 < k := by omega
    by_cases e : j = k - 1
    · subst e; exact h2 hkp
    · exact cmpF_lt_trans (pw_get ho (show j < k - 1 by omega) (by omega)) (h2 hkp)
  have hhi : ∀ x ∈ out.drop k, cmpF f x < 0 := by
    intro x hx
    obtain ⟨j, hj, rfl⟩ := List.mem_iff_getElem.1 hx
    rw [List.getElem_drop]
    rw [List.length_drop] at hj
    have := h1 (k + j) (by omega) (by omega)
    have := cmpF_swap (out[k + j]'(by omega)) f
    omega
  refine List.pairwise_append.2 ⟨List.Pairwise.sublist (List.take_sublist _ _) ho, List.pairwise_cons.2 ⟨hhi, List.Pairwise.sublist (List.drop_sublist _ _) ho⟩, ?_⟩
  intro a ha b hb
  rcases List.mem_cons.1 hb with rfl | hb
  · exact hlo a ha
  · exact cmpF_lt_trans (hlo a ha) (hhi b hb)
theorem mem_ins {out : List api_Final} {f : api_Final} {k : Nat} (z : api_Final) : z ∈ out.take k ++ f :: out.drop k ↔ z ∈ out ∨ z = f := by
  have : z ∈ out ↔ z ∈ out.take k ∨ z ∈ out.drop k := by rw [← List.mem_append, List.take_append_drop]
  rw [List.mem_append, List.mem_cons, this]
  constructor
  · rintro (h | h | h)
    · exact .inl (.inl h)
    · exact .inr h
    · exact .inl (.inr h)
  · rintro ((h | h) | h)
    · exact .inl h
    · exact .inr (.inr h)
    · exact .inr (.inl h)
end Go.Proofs.YtjbhgahbaeoinaaDoor.K
