/- The token at a place, as the program and as the document have it. -/
import Derived.Test.YtboejepakdnbgaaGreatDoorLC
import Derived.Test.YtboejepakdnbgaaGreatDoorLD
set_option linter.unusedVariables false
set_option linter.unusedSimpArgs false
namespace Go.Proofs.YtboejepakdnbgaaGreatDoor.K
open Go

abbrev noTk : api_Token := ⟨0, (⟨#[]⟩ : ByteArray), 0, 0, 0, 0, 0⟩
def tkE (s : ByteArray) (a : Nat) : Sum (Int × Nat) (Int × ByteArray × Int × Nat) :=
  if isL (bA s a) = true then
    (if 64 < endN s (s.size - (a + 1)) (a + 1) - a then .inl (1, a) else .inr (1, s.extract a (endN s (s.size - (a + 1)) (a + 1)), 0, endN s (s.size - (a + 1)) (a + 1)))
  else if isD (bA s a) = true ∨ (bA s a = 45 ∧ isD (bA s (a + 1)) = true) then
    (if (numP (s.extract a (noE s (s.size - (a + 1)) (a + 1)))).2 = 0 then .inr (2, s.extract a (noE s (s.size - (a + 1)) (a + 1)), (numP (s.extract a (noE s (s.size - (a + 1)) (a + 1)))).1, noE s (s.size - (a + 1)) (a + 1))
      else .inl ((numP (s.extract a (noE s (s.size - (a + 1)) (a + 1)))).2, a))
  else if bA s a = 34 then
    (if stE s (s.size - (a + 1)) (a + 1) = s.size then .inl (50, s.size) else if bA s (stE s (s.size - (a + 1)) (a + 1)) = 10 then .inl (50, stE s (s.size - (a + 1)) (a + 1))
      else .inr (3, s.extract (a + 1) (stE s (s.size - (a + 1)) (a + 1)), 0, stE s (s.size - (a + 1)) (a + 1) + 1))
  else if sgE s a = 0 then .inl (50, a) else .inr (4, s.extract a (a + sgE s a), 0, a + sgE s a)
end Go.Proofs.YtboejepakdnbgaaGreatDoor.K
