/-
  No cell of these rows narrows 'for every input' (looked for: loops, veiled, ifaces, maps, wideKeys, modest, calm, conditions, laid).
  DERIVED. THE GIVEN ROWS OF THIS SEAT. 5 by the template 'for every input the law returns true; each argument reads behind the call as it read before'; 0 by the template 'total and deterministic' (their statements: YtfiamlhhhkiiaaaTotals.lean).
  GIVEN WITH THE SEED: the statements are not yours to turn. If you find one false, say at which input.
  Laid BY PROGRAM, IN A SANDBOX (cutbox-rows.mjs): the forced cells as the released guide's own fill.sh prints them over the translation 4ed2b91dea125c0a… (all of the seat's roots in one cut). By AI agents, Wed Nov 11 2026. No macro, syntax, notation, axiom, sorry.
-/
import Derived.Test.YtfiamlhhhkiiaaaChecked
import GoSem.Claim
import GoSem.ClaimJoined
import GoSem.ClaimMapViews
import Derived.JoinedTies
import Derived.KernelRfl
namespace Go.Proofs.Ytfiamlhhhkiiaaa
/- THE CELL 'sum', in the pinned program and in every row, IS THE sha256 OF THE DUMP (.gsa) THAT YtfiamlhhhkiiaaaProg.lean LOADS. Nothing in Lean hashes anything: it is a label: what it is worth is what the hold of that sum in a sandbox is worth. -/
noncomputable def Try.pinned : Pinned := { name := "ytfiamlhhhkiiaaa", sum := "4ed2b91dea125c0aad3ef6873e87ec688f9cc9a6242fd55a2ce572a51db244c5", checked := Try.checked }
namespace Rows
def none {H : Type} : Left H := { results := [], args := [] }

/-- 'weirlaw14.ExploreStates': WHATEVER THE INPUT: true; the input reads as it did. -/
def exploreStatesSpec : ChangeSpec := { name := "exploreStates", fn := fun _ => fun
  | [d1, d2, d3] => { results := [.lit (.bool true)], args := [d1, d2, d3] }
  | _ => none }
def exploreStatesRow : OpenClaim := { program := "ytfiamlhhhkiiaaa", sum := "4ed2b91dea125c0aad3ef6873e87ec688f9cc9a6242fd55a2ce572a51db244c5", func := "weir/weirlaw14.ExploreStates", spec := "exploreStates", unfollowed := true, recurses := true, plainKeys := false, apart := false }
def ExploreStatesSaid : Prop := exploreStatesRow.holds Try.pinned (OpenSpec.ofChange exploreStatesSpec)

/-- ITS FALSE NEIGHBOUR: 'it returns false'. Refute it at one input. -/
def exploreStatesWrong : ChangeSpec := { name := "exploreStates", fn := fun _ => fun
  | [d1, d2, d3] => { results := [.lit (.bool false)], args := [d1, d2, d3] }
  | _ => none }
def ExploreStatesWrongFalsely : Prop := exploreStatesRow.holds Try.pinned (OpenSpec.ofChange exploreStatesWrong)

/-- 'weirlaw14.ExploreWay': WHATEVER THE INPUT: true; the input reads as it did. -/
def exploreWaySpec : ChangeSpec := { name := "exploreWay", fn := fun _ => fun
  | [d1, d2, d3] => { results := [.lit (.bool true)], args := [d1, d2, d3] }
  | _ => none }
def exploreWayRow : OpenClaim := { program := "ytfiamlhhhkiiaaa", sum := "4ed2b91dea125c0aad3ef6873e87ec688f9cc9a6242fd55a2ce572a51db244c5", func := "weir/weirlaw14.ExploreWay", spec := "exploreWay", unfollowed := true, recurses := true, plainKeys := false, apart := false }
def ExploreWaySaid : Prop := exploreWayRow.holds Try.pinned (OpenSpec.ofChange exploreWaySpec)

/-- ITS FALSE NEIGHBOUR: 'it returns false'. Refute it at one input. -/
def exploreWayWrong : ChangeSpec := { name := "exploreWay", fn := fun _ => fun
  | [d1, d2, d3] => { results := [.lit (.bool false)], args := [d1, d2, d3] }
  | _ => none }
def ExploreWayWrongFalsely : Prop := exploreWayRow.holds Try.pinned (OpenSpec.ofChange exploreWayWrong)

/-- 'weirlaw14.ExploreRuns': WHATEVER THE INPUT: true; the input reads as it did. -/
def exploreRunsSpec : ChangeSpec := { name := "exploreRuns", fn := fun _ => fun
  | [d1, d2] => { results := [.lit (.bool true)], args := [d1, d2] }
  | _ => none }
def exploreRunsRow : OpenClaim := { program := "ytfiamlhhhkiiaaa", sum := "4ed2b91dea125c0aad3ef6873e87ec688f9cc9a6242fd55a2ce572a51db244c5", func := "weir/weirlaw14.ExploreRuns", spec := "exploreRuns", inPlace := ["math/bits.Add64"], unfollowed := true, recurses := true, plainKeys := false, apart := false }
def ExploreRunsSaid : Prop := exploreRunsRow.holds Try.pinned (OpenSpec.ofChange exploreRunsSpec)

/-- ITS FALSE NEIGHBOUR: 'it returns false'. Refute it at one input. -/
def exploreRunsWrong : ChangeSpec := { name := "exploreRuns", fn := fun _ => fun
  | [d1, d2] => { results := [.lit (.bool false)], args := [d1, d2] }
  | _ => none }
def ExploreRunsWrongFalsely : Prop := exploreRunsRow.holds Try.pinned (OpenSpec.ofChange exploreRunsWrong)

/-- 'weirlaw14.ExploreNets': WHATEVER THE INPUT: true; the input reads as it did. -/
def exploreNetsSpec : ChangeSpec := { name := "exploreNets", fn := fun _ => fun
  | [d1, d2] => { results := [.lit (.bool true)], args := [d1, d2] }
  | _ => none }
def exploreNetsRow : OpenClaim := { program := "ytfiamlhhhkiiaaa", sum := "4ed2b91dea125c0aad3ef6873e87ec688f9cc9a6242fd55a2ce572a51db244c5", func := "weir/weirlaw14.ExploreNets", spec := "exploreNets", unfollowed := true, recurses := true, plainKeys := false, apart := false }
def ExploreNetsSaid : Prop := exploreNetsRow.holds Try.pinned (OpenSpec.ofChange exploreNetsSpec)

/-- ITS FALSE NEIGHBOUR: 'it returns false'. Refute it at one input. -/
def exploreNetsWrong : ChangeSpec := { name := "exploreNets", fn := fun _ => fun
  | [d1, d2] => { results := [.lit (.bool false)], args := [d1, d2] }
  | _ => none }
def ExploreNetsWrongFalsely : Prop := exploreNetsRow.holds Try.pinned (OpenSpec.ofChange exploreNetsWrong)

/-- 'weirlaw14.ExploreWays': WHATEVER THE INPUT: true; the input reads as it did. -/
def exploreWaysSpec : ChangeSpec := { name := "exploreWays", fn := fun _ => fun
  | [d1, d2] => { results := [.lit (.bool true)], args := [d1, d2] }
  | _ => none }
def exploreWaysRow : OpenClaim := { program := "ytfiamlhhhkiiaaa", sum := "4ed2b91dea125c0aad3ef6873e87ec688f9cc9a6242fd55a2ce572a51db244c5", func := "weir/weirlaw14.ExploreWays", spec := "exploreWays", unfollowed := true, recurses := true, plainKeys := false, apart := false }
def ExploreWaysSaid : Prop := exploreWaysRow.holds Try.pinned (OpenSpec.ofChange exploreWaysSpec)

/-- ITS FALSE NEIGHBOUR: 'it returns false'. Refute it at one input. -/
def exploreWaysWrong : ChangeSpec := { name := "exploreWays", fn := fun _ => fun
  | [d1, d2] => { results := [.lit (.bool false)], args := [d1, d2] }
  | _ => none }
def ExploreWaysWrongFalsely : Prop := exploreWaysRow.holds Try.pinned (OpenSpec.ofChange exploreWaysWrong)

/- THE SECOND FORM. 'bulk': how many values and letters a reading holds, each counted each time it is reached (what is shared counts as often as it is met; a slice's spare places count too). A statement '..UptoSaid' is the law's where the arguments, and the package variables that the reading takes, are together of bulk at most 1048576: NARROWER than '..Said'. Prove '..Said' where nothing that the law and all that it calls make is longer than what came in: it says more and counts as full. Else prove '..UptoSaid'. A law counts once. -/
mutual
def uptoBulk {H : Type} : DataW H → Nat
  | .lit (.string bytes) => bytes.length + 1
  | .lit _ => 1
  | .nil => 1
  | .ptr d => uptoBulk d + 1
  | .slice elems spare => uptoBulkAll elems + uptoBulkAll spare + 1
  | .agg parts => uptoBulkAll parts + 1
  | .iface _ d => uptoBulk d + 1
  | .map entries => uptoBulkEntries entries + 1
  | .held _ => 1
def uptoBulkAll {H : Type} : List (DataW H) → Nat
  | [] => 0
  | d :: r => uptoBulk d + uptoBulkAll r
def uptoBulkEntries {H : Type} : List (Lit × DataW H) → Nat
  | [] => 0
  | x :: r => uptoBulkEntry x + uptoBulkEntries r
def uptoBulkEntry {H : Type} : Lit × DataW H → Nat
  | (.string bytes, d) => bytes.length + uptoBulk d + 1
  | (_, d) => uptoBulk d + 1
 end
def uptoSmall : (H : Type) → List (DataW H) → Bool := fun _ ds => decide (uptoBulkAll ds ≤ 1048576)
def OpenSpec.upto (s : _root_.Go.ChangeSpec) : _root_.Go.OpenSpec := { _root_.Go.OpenSpec.ofChange s with cond := some uptoSmall }

/-- 'weirlaw14.ExploreStates', WHERE WHAT IT READS IS OF BULK AT MOST 1048576: true; the input reads as it did. -/
def exploreStatesUptoRow : OpenClaim := { program := "ytfiamlhhhkiiaaa", sum := "4ed2b91dea125c0aad3ef6873e87ec688f9cc9a6242fd55a2ce572a51db244c5", func := "weir/weirlaw14.ExploreStates", spec := "exploreStates", unfollowed := true, recurses := true, plainKeys := false, apart := false, narrowed := true }
def ExploreStatesUptoSaid : Prop := exploreStatesUptoRow.holds Try.pinned (OpenSpec.upto exploreStatesSpec)

/-- 'weirlaw14.ExploreWay', WHERE WHAT IT READS IS OF BULK AT MOST 1048576: true; the input reads as it did. -/
def exploreWayUptoRow : OpenClaim := { program := "ytfiamlhhhkiiaaa", sum := "4ed2b91dea125c0aad3ef6873e87ec688f9cc9a6242fd55a2ce572a51db244c5", func := "weir/weirlaw14.ExploreWay", spec := "exploreWay", unfollowed := true, recurses := true, plainKeys := false, apart := false, narrowed := true }
def ExploreWayUptoSaid : Prop := exploreWayUptoRow.holds Try.pinned (OpenSpec.upto exploreWaySpec)

/-- 'weirlaw14.ExploreRuns', WHERE WHAT IT READS IS OF BULK AT MOST 1048576: true; the input reads as it did. -/
def exploreRunsUptoRow : OpenClaim := { program := "ytfiamlhhhkiiaaa", sum := "4ed2b91dea125c0aad3ef6873e87ec688f9cc9a6242fd55a2ce572a51db244c5", func := "weir/weirlaw14.ExploreRuns", spec := "exploreRuns", inPlace := ["math/bits.Add64"], unfollowed := true, recurses := true, plainKeys := false, apart := false, narrowed := true }
def ExploreRunsUptoSaid : Prop := exploreRunsUptoRow.holds Try.pinned (OpenSpec.upto exploreRunsSpec)

/-- 'weirlaw14.ExploreNets', WHERE WHAT IT READS IS OF BULK AT MOST 1048576: true; the input reads as it did. -/
def exploreNetsUptoRow : OpenClaim := { program := "ytfiamlhhhkiiaaa", sum := "4ed2b91dea125c0aad3ef6873e87ec688f9cc9a6242fd55a2ce572a51db244c5", func := "weir/weirlaw14.ExploreNets", spec := "exploreNets", unfollowed := true, recurses := true, plainKeys := false, apart := false, narrowed := true }
def ExploreNetsUptoSaid : Prop := exploreNetsUptoRow.holds Try.pinned (OpenSpec.upto exploreNetsSpec)

/-- 'weirlaw14.ExploreWays', WHERE WHAT IT READS IS OF BULK AT MOST 1048576: true; the input reads as it did. -/
def exploreWaysUptoRow : OpenClaim := { program := "ytfiamlhhhkiiaaa", sum := "4ed2b91dea125c0aad3ef6873e87ec688f9cc9a6242fd55a2ce572a51db244c5", func := "weir/weirlaw14.ExploreWays", spec := "exploreWays", unfollowed := true, recurses := true, plainKeys := false, apart := false, narrowed := true }
def ExploreWaysUptoSaid : Prop := exploreWaysUptoRow.holds Try.pinned (OpenSpec.upto exploreWaysSpec)

end Rows
end Go.Proofs.Ytfiamlhhhkiiaaa
