/-
  DERIVED. GIVEN WITH THE SEED: THE CARDS: each row of YtjbhgahbaeoinaaDoorRows.lean that lists a variable, with what it lists TIED to the program's text (the seventh form; the later family's looks); each row that meets fmt, with fmt's text TOLD by the authors' own Lean function (tested against real Go, not proved from fmt's source: count such statements apart). THE CARD IS WHAT COUNTS. Prove the row's statement (the work); the ties are given (YtjbhgahbaeoinaaDoorTie.lean); close each card by the builder's one call (the guide's Derived/Test/ToyasCard.lean, 'card_holds'). Laid BY PROGRAM, IN A SANDBOX (cutbox-door.mjs). By AI agents, Wed Nov 11 2026. No macro, syntax, notation, axiom, sorry.
-/
import Derived.Test.YtjbhgahbaeoinaaDoorRows
import GoSem.ClaimSeven
namespace Go.Proofs.YtjbhgahbaeoinaaDoor
namespace Rows

/-- THE TIED CARD OF 'weirlaw10.StateTotal'. -/
def stateTotalCard : Claim7 := { stood := { row := stateTotalRow, standIns := [], harness := (true, "ff52eff4cd6f39b78f613005273bb1bc7e12276f80ff5686b2ac53ef27dfd05b"), looks := false }, kinds := [], alts := [], laidByText := true, laidKinds := [.data, .data, .data], laidTests := true, laidLooks := .later }
def StateTotalCardSaid : Prop := Claim7.holds Tryd.pinned (.plain (OpenSpec.ofChange stateTotalSpec)) stateTotalCard

/-- THE TIED CARD OF 'weirlaw10.StateProjected'. -/
def stateProjectedCard : Claim7 := { stood := { row := stateProjectedRow, standIns := [], harness := (true, "ff52eff4cd6f39b78f613005273bb1bc7e12276f80ff5686b2ac53ef27dfd05b"), looks := false }, kinds := [], alts := [], laidByText := true, laidKinds := [.data, .data, .data], laidTests := true, laidLooks := .later }
def StateProjectedCardSaid : Prop := Claim7.holds Tryd.pinned (.plain (OpenSpec.ofChange stateProjectedSpec)) stateProjectedCard

/-- THE TIED CARD OF 'weirlaw10.StateBack'. -/
def stateBackCard : Claim7 := { stood := { row := stateBackRow, standIns := [], harness := (true, "ff52eff4cd6f39b78f613005273bb1bc7e12276f80ff5686b2ac53ef27dfd05b"), looks := false }, kinds := [], alts := [], laidByText := true, laidKinds := [.data, .data, .data], laidTests := true, laidLooks := .later }
def StateBackCardSaid : Prop := Claim7.holds Tryd.pinned (.plain (OpenSpec.ofChange stateBackSpec)) stateBackCard

/-- THE TIED CARD OF 'weirlaw10.StateSetLaws'. -/
def stateSetLawsCard : Claim7 := { stood := { row := stateSetLawsRow, standIns := [], harness := (true, "ff52eff4cd6f39b78f613005273bb1bc7e12276f80ff5686b2ac53ef27dfd05b"), looks := false }, kinds := [], alts := [], laidByText := true, laidKinds := [.data, .data, .data], laidTests := true, laidLooks := .later }
def StateSetLawsCardSaid : Prop := Claim7.holds Tryd.pinned (.plain (OpenSpec.ofChange stateSetLawsSpec)) stateSetLawsCard

/-- THE SECOND FORM's CARD OF 'weirlaw10.StateTotal'. -/
def stateTotalUptoCard : Claim7 := { stood := { row := stateTotalUptoRow, standIns := [], harness := (true, "ff52eff4cd6f39b78f613005273bb1bc7e12276f80ff5686b2ac53ef27dfd05b"), looks := false }, kinds := [], alts := [], laidByText := true, laidKinds := [.data, .data, .data], laidTests := true, laidLooks := .later }
def StateTotalUptoCardSaid : Prop := Claim7.holds Tryd.pinned (.plain (OpenSpec.upto stateTotalSpec)) stateTotalUptoCard

/-- THE SECOND FORM's CARD OF 'weirlaw10.StateProjected'. -/
def stateProjectedUptoCard : Claim7 := { stood := { row := stateProjectedUptoRow, standIns := [], harness := (true, "ff52eff4cd6f39b78f613005273bb1bc7e12276f80ff5686b2ac53ef27dfd05b"), looks := false }, kinds := [], alts := [], laidByText := true, laidKinds := [.data, .data, .data], laidTests := true, laidLooks := .later }
def StateProjectedUptoCardSaid : Prop := Claim7.holds Tryd.pinned (.plain (OpenSpec.upto stateProjectedSpec)) stateProjectedUptoCard

/-- THE SECOND FORM's CARD OF 'weirlaw10.StateBack'. -/
def stateBackUptoCard : Claim7 := { stood := { row := stateBackUptoRow, standIns := [], harness := (true, "ff52eff4cd6f39b78f613005273bb1bc7e12276f80ff5686b2ac53ef27dfd05b"), looks := false }, kinds := [], alts := [], laidByText := true, laidKinds := [.data, .data, .data], laidTests := true, laidLooks := .later }
def StateBackUptoCardSaid : Prop := Claim7.holds Tryd.pinned (.plain (OpenSpec.upto stateBackSpec)) stateBackUptoCard

/-- THE SECOND FORM's CARD OF 'weirlaw10.StateSetLaws'. -/
def stateSetLawsUptoCard : Claim7 := { stood := { row := stateSetLawsUptoRow, standIns := [], harness := (true, "ff52eff4cd6f39b78f613005273bb1bc7e12276f80ff5686b2ac53ef27dfd05b"), looks := false }, kinds := [], alts := [], laidByText := true, laidKinds := [.data, .data, .data], laidTests := true, laidLooks := .later }
def StateSetLawsUptoCardSaid : Prop := Claim7.holds Tryd.pinned (.plain (OpenSpec.upto stateSetLawsSpec)) stateSetLawsUptoCard
end Rows
end Go.Proofs.YtjbhgahbaeoinaaDoor
