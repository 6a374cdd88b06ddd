/- What the reader reads is a tree by the grammar; what Parse answers. -/
import Derived.Test.YtboejepakdnbgaaGreatDoorTF
set_option linter.unusedVariables false
set_option linter.unusedSectionVars false
set_option linter.unusedSimpArgs false
set_option maxRecDepth 100000
namespace Go.Proofs.YtboejepakdnbgaaGreatDoor.K.C
open Go

abbrev Res := Sum PErr (Int × Int × api_Token × Int × (List api_Node))
section
variable {l : Toks} (hl : l.length ≤ 2199023255552) {a : Nat} {la : api_Token} {d : Int} {c : Nods}
include hl
end
def out (c : Nods) (t : Cd) (j : Nat) (la : api_Token) (d : Int) : Int × Int × api_Token × Int × (List api_Node) := (((c.length + t.n - 1 : Nat) : Int), (j : Int), la, d, c ++ t.nodes c.length)
section
variable {l : Toks} (hl : l.length ≤ 2199023255552) {n : Int} {p : cond_reader → Option Res}
include hl
end
end Go.Proofs.YtboejepakdnbgaaGreatDoor.K.C
