/-
  No cell of these rows narrows 'for every input' (looked for: loops, veiled, ifaces, maps, wideKeys, modest, calm, conditions, laid).
  DERIVED. THE GIVEN ROWS OF THIS SEAT. 4 by the template 'for every input the law returns true; each argument reads behind the call as it read before'; 0 by the template 'total and deterministic' (their statements: YteppciglfdiljaaTotals.lean).
  GIVEN WITH THE SEED: the statements are not yours to turn. If you find one false, say at which input.
  Laid BY PROGRAM, IN A SANDBOX (cutbox-rows.mjs): the forced cells as the released guide's own fill.sh prints them over the translation 38b691ceb77f1760… (all of the seat's roots in one cut). By AI agents, Wed Nov 11 2026. No macro, syntax, notation, axiom, sorry.
-/
import Derived.Test.YteppciglfdiljaaChecked
import GoSem.Claim
import GoSem.ClaimJoined
import GoSem.ClaimMapViews
import Derived.JoinedTies
import Derived.KernelRfl
namespace Go.Proofs.Yteppciglfdiljaa
/- THE CELL 'sum', in the pinned program and in every row, IS THE sha256 OF THE DUMP (.gsa) THAT YteppciglfdiljaaProg.lean LOADS. Nothing in Lean hashes anything: it is a label: what it is worth is what the hold of that sum in a sandbox is worth. -/
noncomputable def Try.pinned : Pinned := { name := "yteppciglfdiljaa", sum := "38b691ceb77f176036e477d4b82c0e220a92fbb13e2a918090dcb2a40b700cb6", checked := Try.checked }
namespace Rows
def none {H : Type} : Left H := { results := [], args := [] }

/-- 'weirlaw10.StateCodes': WHATEVER THE INPUT: true; the input reads as it did. -/
def stateCodesSpec : ChangeSpec := { name := "stateCodes", fn := fun _ => fun
  | [d1, d2] => { results := [.lit (.bool true)], args := [d1, d2] }
  | _ => none }
def stateCodesRow : OpenClaim := { program := "yteppciglfdiljaa", sum := "38b691ceb77f176036e477d4b82c0e220a92fbb13e2a918090dcb2a40b700cb6", func := "weir/weirlaw10.StateCodes", spec := "stateCodes", inPlace := ["internal/abi.NoEscape"], apart := false }
def StateCodesSaid : Prop := stateCodesRow.holds Try.pinned (OpenSpec.ofChange stateCodesSpec)

/-- ITS FALSE NEIGHBOUR: 'it returns false'. Refute it at one input. -/
def stateCodesWrong : ChangeSpec := { name := "stateCodes", fn := fun _ => fun
  | [d1, d2] => { results := [.lit (.bool false)], args := [d1, d2] }
  | _ => none }
def StateCodesWrongFalsely : Prop := stateCodesRow.holds Try.pinned (OpenSpec.ofChange stateCodesWrong)

/-- 'weirlaw10.StateSets': WHATEVER THE INPUT: true; the input reads as it did. -/
def stateSetsSpec : ChangeSpec := { name := "stateSets", fn := fun _ => fun
  | [d1, d2, d3] => { results := [.lit (.bool true)], args := [d1, d2, d3] }
  | _ => none }
def stateSetsRow : OpenClaim := { program := "yteppciglfdiljaa", sum := "38b691ceb77f176036e477d4b82c0e220a92fbb13e2a918090dcb2a40b700cb6", func := "weir/weirlaw10.StateSets", spec := "stateSets", unfollowed := true, recurses := true, apart := false }
def StateSetsSaid : Prop := stateSetsRow.holds Try.pinned (OpenSpec.ofChange stateSetsSpec)

/-- ITS FALSE NEIGHBOUR: 'it returns false'. Refute it at one input. -/
def stateSetsWrong : ChangeSpec := { name := "stateSets", fn := fun _ => fun
  | [d1, d2, d3] => { results := [.lit (.bool false)], args := [d1, d2, d3] }
  | _ => none }
def StateSetsWrongFalsely : Prop := stateSetsRow.holds Try.pinned (OpenSpec.ofChange stateSetsWrong)

/-- 'weirlaw10.StateOrders': WHATEVER THE INPUT: true; the input reads as it did. -/
def stateOrdersSpec : ChangeSpec := { name := "stateOrders", fn := fun _ => fun
  | [d1, d2, d3] => { results := [.lit (.bool true)], args := [d1, d2, d3] }
  | _ => none }
def stateOrdersRow : OpenClaim := { program := "yteppciglfdiljaa", sum := "38b691ceb77f176036e477d4b82c0e220a92fbb13e2a918090dcb2a40b700cb6", func := "weir/weirlaw10.StateOrders", spec := "stateOrders", unfollowed := true, recurses := true, apart := false }
def StateOrdersSaid : Prop := stateOrdersRow.holds Try.pinned (OpenSpec.ofChange stateOrdersSpec)

/-- ITS FALSE NEIGHBOUR: 'it returns false'. Refute it at one input. -/
def stateOrdersWrong : ChangeSpec := { name := "stateOrders", fn := fun _ => fun
  | [d1, d2, d3] => { results := [.lit (.bool false)], args := [d1, d2, d3] }
  | _ => none }
def StateOrdersWrongFalsely : Prop := stateOrdersRow.holds Try.pinned (OpenSpec.ofChange stateOrdersWrong)

/-- 'weirlaw10.StateProjects': WHATEVER THE INPUT: true; the input reads as it did. -/
def stateProjectsSpec : ChangeSpec := { name := "stateProjects", fn := fun _ => fun
  | [d1, d2] => { results := [.lit (.bool true)], args := [d1, d2] }
  | _ => none }
def stateProjectsRow : OpenClaim := { program := "yteppciglfdiljaa", sum := "38b691ceb77f176036e477d4b82c0e220a92fbb13e2a918090dcb2a40b700cb6", func := "weir/weirlaw10.StateProjects", spec := "stateProjects", unfollowed := true, recurses := true, apart := false }
def StateProjectsSaid : Prop := stateProjectsRow.holds Try.pinned (OpenSpec.ofChange stateProjectsSpec)

/-- ITS FALSE NEIGHBOUR: 'it returns false'. Refute it at one input. -/
def stateProjectsWrong : ChangeSpec := { name := "stateProjects", fn := fun _ => fun
  | [d1, d2] => { results := [.lit (.bool false)], args := [d1, d2] }
  | _ => none }
def StateProjectsWrongFalsely : Prop := stateProjectsRow.holds Try.pinned (OpenSpec.ofChange stateProjectsWrong)

/- THE SECOND FORM. 'bulk': how many values and letters a reading holds, each counted each time it is reached (what is shared counts as often as it is met; a slice's spare places count too). A statement '..UptoSaid' is the law's where the arguments, and the package variables that the reading takes, are together of bulk at most 1048576: NARROWER than '..Said'. Prove '..Said' where nothing that the law and all that it calls make is longer than what came in: it says more and counts as full. Else prove '..UptoSaid'. A law counts once. -/
mutual
def uptoBulk {H : Type} : DataW H → Nat
  | .lit (.string bytes) => bytes.length + 1
  | .lit _ => 1
  | .nil => 1
  | .ptr d => uptoBulk d + 1
  | .slice elems spare => uptoBulkAll elems + uptoBulkAll spare + 1
  | .agg parts => uptoBulkAll parts + 1
  | .iface _ d => uptoBulk d + 1
  | .map entries => uptoBulkEntries entries + 1
  | .held _ => 1
def uptoBulkAll {H : Type} : List (DataW H) → Nat
  | [] => 0
  | d :: r => uptoBulk d + uptoBulkAll r
def uptoBulkEntries {H : Type} : List (Lit × DataW H) → Nat
  | [] => 0
  | x :: r => uptoBulkEntry x + uptoBulkEntries r
def uptoBulkEntry {H : Type} : Lit × DataW H → Nat
  | (.string bytes, d) => bytes.length + uptoBulk d + 1
  | (_, d) => uptoBulk d + 1
 end
def uptoSmall : (H : Type) → List (DataW H) → Bool := fun _ ds => decide (uptoBulkAll ds ≤ 1048576)
def OpenSpec.upto (s : _root_.Go.ChangeSpec) : _root_.Go.OpenSpec := { _root_.Go.OpenSpec.ofChange s with cond := some uptoSmall }

/-- 'weirlaw10.StateCodes', WHERE WHAT IT READS IS OF BULK AT MOST 1048576: true; the input reads as it did. -/
def stateCodesUptoRow : OpenClaim := { program := "yteppciglfdiljaa", sum := "38b691ceb77f176036e477d4b82c0e220a92fbb13e2a918090dcb2a40b700cb6", func := "weir/weirlaw10.StateCodes", spec := "stateCodes", inPlace := ["internal/abi.NoEscape"], apart := false, narrowed := true }
def StateCodesUptoSaid : Prop := stateCodesUptoRow.holds Try.pinned (OpenSpec.upto stateCodesSpec)

/-- 'weirlaw10.StateSets', WHERE WHAT IT READS IS OF BULK AT MOST 1048576: true; the input reads as it did. -/
def stateSetsUptoRow : OpenClaim := { program := "yteppciglfdiljaa", sum := "38b691ceb77f176036e477d4b82c0e220a92fbb13e2a918090dcb2a40b700cb6", func := "weir/weirlaw10.StateSets", spec := "stateSets", unfollowed := true, recurses := true, apart := false, narrowed := true }
def StateSetsUptoSaid : Prop := stateSetsUptoRow.holds Try.pinned (OpenSpec.upto stateSetsSpec)

/-- 'weirlaw10.StateOrders', WHERE WHAT IT READS IS OF BULK AT MOST 1048576: true; the input reads as it did. -/
def stateOrdersUptoRow : OpenClaim := { program := "yteppciglfdiljaa", sum := "38b691ceb77f176036e477d4b82c0e220a92fbb13e2a918090dcb2a40b700cb6", func := "weir/weirlaw10.StateOrders", spec := "stateOrders", unfollowed := true, recurses := true, apart := false, narrowed := true }
def StateOrdersUptoSaid : Prop := stateOrdersUptoRow.holds Try.pinned (OpenSpec.upto stateOrdersSpec)

/-- 'weirlaw10.StateProjects', WHERE WHAT IT READS IS OF BULK AT MOST 1048576: true; the input reads as it did. -/
def stateProjectsUptoRow : OpenClaim := { program := "yteppciglfdiljaa", sum := "38b691ceb77f176036e477d4b82c0e220a92fbb13e2a918090dcb2a40b700cb6", func := "weir/weirlaw10.StateProjects", spec := "stateProjects", unfollowed := true, recurses := true, apart := false, narrowed := true }
def StateProjectsUptoSaid : Prop := stateProjectsUptoRow.holds Try.pinned (OpenSpec.upto stateProjectsSpec)

end Rows
end Go.Proofs.Yteppciglfdiljaa
