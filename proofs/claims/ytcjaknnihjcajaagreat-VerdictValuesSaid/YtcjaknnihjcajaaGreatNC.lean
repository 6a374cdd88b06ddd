/- Conversions amid regions that draw: []byte(s); an element of an array's value. -/
import Derived.Test.YtcjaknnihjcajaaGreatNX
import Derived.Lib.ConvBytes
set_option linter.unusedVariables false
set_option linter.unusedSimpArgs false
namespace Go.Proofs.YtcjaknnihjcajaaGreat.K
open Go Go.RowKit Go.MapKept
section
variable {P : Program} {l : List Value} {w w0 : World} {Z : Zm} {xs : List XObj} {s : ByteArray} {b c : Nat}
end
end Go.Proofs.YtcjaknnihjcajaaGreat.K
