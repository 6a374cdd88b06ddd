/-
  DERIVED. GIVEN WITH THE SEED: THE CARDS: each row of YtkhcbamlhckilaaGreatDoorRows.lean that lists a variable, with what it lists TIED to the program's text (the seventh form; the later family's looks); each row that meets fmt, with fmt's text TOLD by the authors' own Lean function (tested against real Go, not proved from fmt's source: count such statements apart). THE CARD IS WHAT COUNTS. Prove the row's statement (the work); the ties are given (YtkhcbamlhckilaaGreatDoorTie.lean); close each card by the builder's one call (the guide's Derived/Test/ToyasCard.lean, 'card_holds'). Laid BY PROGRAM, IN A SANDBOX (cutbox-door.mjs). By AI agents, Wed Nov 11 2026. No macro, syntax, notation, axiom, sorry.
-/
import Derived.Test.YtkhcbamlhckilaaGreatDoorRows
import GoSem.ClaimSeven
namespace Go.Proofs.YtkhcbamlhckilaaGreatDoor
namespace Rows

/-- THE TIED CARD OF 'weirlaw07.LitmusInstrs'. -/
def litmusInstrsCard : Claim7 := { stood := { row := litmusInstrsRow, standIns := [], harness := (true, "a1e9a962b0f53e260543e40718f0b6c9189163c6d189f6ae6e71084ccd28bc8f"), looks := true }, kinds := [], alts := [], laidByText := true, laidKinds := [.handle], laidTests := true, laidLooks := .later }
def LitmusInstrsCardSaid : Prop := Claim7.holds Tryz.pinned (.plain (OpenSpec.ofChange litmusInstrsSpec)) litmusInstrsCard

/-- THE SECOND FORM's CARD OF 'weirlaw07.LitmusInstrs'. -/
def litmusInstrsUptoCard : Claim7 := { stood := { row := litmusInstrsUptoRow, standIns := [], harness := (true, "a1e9a962b0f53e260543e40718f0b6c9189163c6d189f6ae6e71084ccd28bc8f"), looks := true }, kinds := [], alts := [], laidByText := true, laidKinds := [.handle], laidTests := true, laidLooks := .later }
def LitmusInstrsUptoCardSaid : Prop := Claim7.holds Tryz.pinned (.plain (OpenSpec.upto litmusInstrsSpec)) litmusInstrsUptoCard
end Rows
end Go.Proofs.YtkhcbamlhckilaaGreatDoor
