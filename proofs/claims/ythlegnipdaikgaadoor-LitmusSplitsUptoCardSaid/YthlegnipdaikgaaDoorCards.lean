/-
  DERIVED. GIVEN WITH THE SEED: THE CARDS: each row of YthlegnipdaikgaaDoorRows.lean that lists a variable, with what it lists TIED to the program's text (the seventh form; the later family's looks); each row that meets fmt, with fmt's text TOLD by the authors' own Lean function (tested against real Go, not proved from fmt's source: count such statements apart). THE CARD IS WHAT COUNTS. Prove the row's statement (the work); the ties are given (YthlegnipdaikgaaDoorTie.lean); close each card by the builder's one call (the guide's Derived/Test/ToyasCard.lean, 'card_holds'). Laid BY PROGRAM, IN A SANDBOX (cutbox-door.mjs). By AI agents, Wed Nov 11 2026. No macro, syntax, notation, axiom, sorry.
-/
import Derived.Test.YthlegnipdaikgaaDoorRows
import GoSem.ClaimSeven
namespace Go.Proofs.YthlegnipdaikgaaDoor
namespace Rows

/-- THE TIED CARD OF 'weirlaw07.LitmusSplits'. -/
def litmusSplitsCard : Claim7 := { stood := { row := litmusSplitsRow, standIns := [], harness := (true, "b668a08bc745aa6205ebd66850332e9fd76aef086a1d7c60b4b122e3a858245d"), looks := false }, kinds := [], alts := [], laidByText := true, laidKinds := [.data, .pinned], laidTests := true, laidLooks := .later }
def LitmusSplitsCardSaid : Prop := Claim7.holds Tryd.pinned (.plain (OpenSpec.ofChange litmusSplitsSpec)) litmusSplitsCard

/-- THE SECOND FORM's CARD OF 'weirlaw07.LitmusSplits'. -/
def litmusSplitsUptoCard : Claim7 := { stood := { row := litmusSplitsUptoRow, standIns := [], harness := (true, "b668a08bc745aa6205ebd66850332e9fd76aef086a1d7c60b4b122e3a858245d"), looks := false }, kinds := [], alts := [], laidByText := true, laidKinds := [.data, .pinned], laidTests := true, laidLooks := .later }
def LitmusSplitsUptoCardSaid : Prop := Claim7.holds Tryd.pinned (.plain (OpenSpec.upto litmusSplitsSpec)) litmusSplitsUptoCard
end Rows
end Go.Proofs.YthlegnipdaikgaaDoor
