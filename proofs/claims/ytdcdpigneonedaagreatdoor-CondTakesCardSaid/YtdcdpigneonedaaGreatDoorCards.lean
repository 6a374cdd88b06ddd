/-
  DERIVED. GIVEN WITH THE SEED: THE CARDS: each row of YtdcdpigneonedaaGreatDoorRows.lean that lists a variable, with what it lists TIED to the program's text (the seventh form; the later family's looks); each row that meets fmt, with fmt's text TOLD by the authors' own Lean function (tested against real Go, not proved from fmt's source: count such statements apart). THE CARD IS WHAT COUNTS. Prove the row's statement (the work); the ties are given (YtdcdpigneonedaaGreatDoorTie.lean); close each card by the builder's one call (the guide's Derived/Test/ToyasCard.lean, 'card_holds'). Laid BY PROGRAM, IN A SANDBOX (cutbox-door.mjs). By AI agents, Wed Nov 11 2026. No macro, syntax, notation, axiom, sorry.
-/
import Derived.Test.YtdcdpigneonedaaGreatDoorRows
import GoSem.ClaimSeven
namespace Go.Proofs.YtdcdpigneonedaaGreatDoor
namespace Rows

/-- THE TIED CARD OF 'weirlaw06.CondTakes'. -/
def condTakesCard : Claim7 := { stood := { row := condTakesRow, standIns := [], harness := (true, "672f13f25030d577b2bd07fbf3cc7bdcb6882a61ffe340b2653f93a5da909634"), looks := true }, kinds := [], alts := [], laidByText := true, laidKinds := [.data, .data, .data, .data, .handle, .sentinel, .sentinel, .pinned], laidTests := true, laidLooks := .later }
def CondTakesCardSaid : Prop := Claim7.holds Tryz.pinned (.plain (OpenSpec.ofChange condTakesSpec)) condTakesCard

/-- THE SECOND FORM's CARD OF 'weirlaw06.CondTakes'. -/
def condTakesUptoCard : Claim7 := { stood := { row := condTakesUptoRow, standIns := [], harness := (true, "672f13f25030d577b2bd07fbf3cc7bdcb6882a61ffe340b2653f93a5da909634"), looks := true }, kinds := [], alts := [], laidByText := true, laidKinds := [.data, .data, .data, .data, .handle, .sentinel, .sentinel, .pinned], laidTests := true, laidLooks := .later }
def CondTakesUptoCardSaid : Prop := Claim7.holds Tryz.pinned (.plain (OpenSpec.upto condTakesSpec)) condTakesUptoCard
end Rows
end Go.Proofs.YtdcdpigneonedaaGreatDoor
