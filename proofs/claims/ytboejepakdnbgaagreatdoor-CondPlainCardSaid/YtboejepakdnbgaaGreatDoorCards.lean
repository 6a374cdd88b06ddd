/-
  DERIVED. GIVEN WITH THE SEED: THE CARDS: each row of YtboejepakdnbgaaGreatDoorRows.lean that lists a variable, with what it lists TIED to the program's text (the seventh form; the later family's looks); each row that meets fmt, with fmt's text TOLD by the authors' own Lean function (tested against real Go, not proved from fmt's source: count such statements apart). THE CARD IS WHAT COUNTS. Prove the row's statement (the work); the ties are given (YtboejepakdnbgaaGreatDoorTie.lean); close each card by the builder's one call (the guide's Derived/Test/ToyasCard.lean, 'card_holds'). Laid BY PROGRAM, IN A SANDBOX (cutbox-door.mjs). By AI agents, Wed Nov 11 2026. No macro, syntax, notation, axiom, sorry.
-/
import Derived.Test.YtboejepakdnbgaaGreatDoorRows
import GoSem.ClaimSeven
namespace Go.Proofs.YtboejepakdnbgaaGreatDoor
namespace Rows

/-- THE TIED CARD OF 'weirlaw06.CondParses'. -/
def condParsesCard : Claim7 := { stood := { row := condParsesRow, standIns := [], harness := (true, "8d1b85d9e0cbffa6a197e66f4f75020d8c793e4addca5929d0718e43e4fab006"), looks := true }, kinds := [], alts := [], laidByText := true, laidKinds := [.data, .data, .data, .data, .handle, .sentinel, .sentinel, .pinned], laidTests := true, laidLooks := .later }
def CondParsesCardSaid : Prop := Claim7.holds Tryz.pinned (.plain (OpenSpec.ofChange condParsesSpec)) condParsesCard

/-- THE TIED CARD OF 'weirlaw06.CondBack'. -/
def condBackCard : Claim7 := { stood := { row := condBackRow, standIns := [], harness := (true, "8d1b85d9e0cbffa6a197e66f4f75020d8c793e4addca5929d0718e43e4fab006"), looks := true }, kinds := [], alts := [], laidByText := true, laidKinds := [.data, .data, .data, .data, .sentinel, .sentinel, .pinned], laidTests := true, laidLooks := .later }
def CondBackCardSaid : Prop := Claim7.holds Tryz.pinned (.plain (OpenSpec.ofChange condBackSpec)) condBackCard

/-- THE TIED CARD OF 'weirlaw06.CondLogic'. -/
def condLogicCard : Claim7 := { stood := { row := condLogicRow, standIns := [], harness := (true, "8d1b85d9e0cbffa6a197e66f4f75020d8c793e4addca5929d0718e43e4fab006"), looks := true }, kinds := [], alts := [], laidByText := true, laidKinds := [.data, .data, .data, .data, .sentinel, .sentinel, .pinned], laidTests := true, laidLooks := .later }
def CondLogicCardSaid : Prop := Claim7.holds Tryz.pinned (.plain (OpenSpec.ofChange condLogicSpec)) condLogicCard

/-- THE TIED CARD OF 'weirlaw06.CondGaps'. -/
def condGapsCard : Claim7 := { stood := { row := condGapsRow, standIns := [], harness := (true, "8d1b85d9e0cbffa6a197e66f4f75020d8c793e4addca5929d0718e43e4fab006"), looks := true }, kinds := [], alts := [], laidByText := true, laidKinds := [.data, .data, .data, .data, .sentinel, .sentinel, .pinned], laidTests := true, laidLooks := .later }
def CondGapsCardSaid : Prop := Claim7.holds Tryz.pinned (.plain (OpenSpec.ofChange condGapsSpec)) condGapsCard

/-- THE TIED CARD OF 'weirlaw06.CondPlain'. -/
def condPlainCard : Claim7 := { stood := { row := condPlainRow, standIns := [], harness := (true, "8d1b85d9e0cbffa6a197e66f4f75020d8c793e4addca5929d0718e43e4fab006"), looks := true }, kinds := [], alts := [], laidByText := true, laidKinds := [.data, .data, .data, .data, .sentinel, .sentinel, .pinned], laidTests := true, laidLooks := .later }
def CondPlainCardSaid : Prop := Claim7.holds Tryz.pinned (.plain (OpenSpec.ofChange condPlainSpec)) condPlainCard

/-- THE SECOND FORM's CARD OF 'weirlaw06.CondParses'. -/
def condParsesUptoCard : Claim7 := { stood := { row := condParsesUptoRow, standIns := [], harness := (true, "8d1b85d9e0cbffa6a197e66f4f75020d8c793e4addca5929d0718e43e4fab006"), looks := true }, kinds := [], alts := [], laidByText := true, laidKinds := [.data, .data, .data, .data, .handle, .sentinel, .sentinel, .pinned], laidTests := true, laidLooks := .later }
def CondParsesUptoCardSaid : Prop := Claim7.holds Tryz.pinned (.plain (OpenSpec.upto condParsesSpec)) condParsesUptoCard

/-- THE SECOND FORM's CARD OF 'weirlaw06.CondBack'. -/
def condBackUptoCard : Claim7 := { stood := { row := condBackUptoRow, standIns := [], harness := (true, "8d1b85d9e0cbffa6a197e66f4f75020d8c793e4addca5929d0718e43e4fab006"), looks := true }, kinds := [], alts := [], laidByText := true, laidKinds := [.data, .data, .data, .data, .sentinel, .sentinel, .pinned], laidTests := true, laidLooks := .later }
def CondBackUptoCardSaid : Prop := Claim7.holds Tryz.pinned (.plain (OpenSpec.upto condBackSpec)) condBackUptoCard

/-- THE SECOND FORM's CARD OF 'weirlaw06.CondLogic'. -/
def condLogicUptoCard : Claim7 := { stood := { row := condLogicUptoRow, standIns := [], harness := (true, "8d1b85d9e0cbffa6a197e66f4f75020d8c793e4addca5929d0718e43e4fab006"), looks := true }, kinds := [], alts := [], laidByText := true, laidKinds := [.data, .data, .data, .data, .sentinel, .sentinel, .pinned], laidTests := true, laidLooks := .later }
def CondLogicUptoCardSaid : Prop := Claim7.holds Tryz.pinned (.plain (OpenSpec.upto condLogicSpec)) condLogicUptoCard

/-- THE SECOND FORM's CARD OF 'weirlaw06.CondGaps'. -/
def condGapsUptoCard : Claim7 := { stood := { row := condGapsUptoRow, standIns := [], harness := (true, "8d1b85d9e0cbffa6a197e66f4f75020d8c793e4addca5929d0718e43e4fab006"), looks := true }, kinds := [], alts := [], laidByText := true, laidKinds := [.data, .data, .data, .data, .sentinel, .sentinel, .pinned], laidTests := true, laidLooks := .later }
def CondGapsUptoCardSaid : Prop := Claim7.holds Tryz.pinned (.plain (OpenSpec.upto condGapsSpec)) condGapsUptoCard

/-- THE SECOND FORM's CARD OF 'weirlaw06.CondPlain'. -/
def condPlainUptoCard : Claim7 := { stood := { row := condPlainUptoRow, standIns := [], harness := (true, "8d1b85d9e0cbffa6a197e66f4f75020d8c793e4addca5929d0718e43e4fab006"), looks := true }, kinds := [], alts := [], laidByText := true, laidKinds := [.data, .data, .data, .data, .sentinel, .sentinel, .pinned], laidTests := true, laidLooks := .later }
def CondPlainUptoCardSaid : Prop := Claim7.holds Tryz.pinned (.plain (OpenSpec.upto condPlainSpec)) condPlainUptoCard
end Rows
end Go.Proofs.YtboejepakdnbgaaGreatDoor
