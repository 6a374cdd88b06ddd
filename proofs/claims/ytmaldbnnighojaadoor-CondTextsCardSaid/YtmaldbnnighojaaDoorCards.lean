/-
  DERIVED. GIVEN WITH THE SEED: THE CARDS: each row of YtmaldbnnighojaaDoorRows.lean that lists a variable, with what it lists TIED to the program's text (the seventh form; the later family's looks); each row that meets fmt, with fmt's text TOLD by the authors' own Lean function (tested against real Go, not proved from fmt's source: count such statements apart). THE CARD IS WHAT COUNTS. Prove the row's statement (the work); the ties are given (YtmaldbnnighojaaDoorTie.lean); close each card by the builder's one call (the guide's Derived/Test/ToyasCard.lean, 'card_holds'). Laid BY PROGRAM, IN A SANDBOX (cutbox-door.mjs). By AI agents, Wed Nov 11 2026. No macro, syntax, notation, axiom, sorry.
-/
import Derived.Test.YtmaldbnnighojaaDoorRows
import GoSem.ClaimSeven
namespace Go.Proofs.YtmaldbnnighojaaDoor
namespace Rows

/-- THE TIED CARD OF 'weirlaw06.CondTexts'. -/
def condTextsCard : Claim7 := { stood := { row := condTextsRow, standIns := [], harness := (true, "97c26a2c3321ee89a52aa1505e93ef974ad72fd398bf9134fa41b97b87262086"), looks := false }, kinds := [], alts := [], laidByText := true, laidKinds := [.data, .data, .data], laidTests := true, laidLooks := .later }
def CondTextsCardSaid : Prop := Claim7.holds Tryd.pinned (.plain (OpenSpec.ofChange condTextsSpec)) condTextsCard

/-- THE SECOND FORM's CARD OF 'weirlaw06.CondTexts'. -/
def condTextsUptoCard : Claim7 := { stood := { row := condTextsUptoRow, standIns := [], harness := (true, "97c26a2c3321ee89a52aa1505e93ef974ad72fd398bf9134fa41b97b87262086"), looks := false }, kinds := [], alts := [], laidByText := true, laidKinds := [.data, .data, .data], laidTests := true, laidLooks := .later }
def CondTextsUptoCardSaid : Prop := Claim7.holds Tryd.pinned (.plain (OpenSpec.upto condTextsSpec)) condTextsUptoCard
end Rows
end Go.Proofs.YtmaldbnnighojaaDoor
