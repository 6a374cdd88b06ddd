/- Big structs: their zero values, and where their fields lie. -/
import Derived.Test.YtboejepakdnbgaaGreatDoorE
import Derived.Test.YtboejepakdnbgaaGreatDoorNG
import Derived.Test.YtboejepakdnbgaaGreatDoorNP
import Derived.Test.YtboejepakdnbgaaGreatDoorNM
import Derived.Test.YtboejepakdnbgaaGreatDoorNI
import Derived.Test.YtboejepakdnbgaaGreatDoorNV
import Derived.Test.YtboejepakdnbgaaGreatDoorNX
import Derived.Test.YtboejepakdnbgaaGreatDoorNY
import Derived.Test.YtboejepakdnbgaaGreatDoorNC
import Derived.Test.YtboejepakdnbgaaGreatDoorNF
import Derived.Test.YtboejepakdnbgaaGreatDoorNA
set_option maxRecDepth 100000
namespace Go.Proofs.YtboejepakdnbgaaGreatDoor.K
open Go Go.RowKit
theorem hz_122 : pureSem Tryz.prog (zeroValue 122) = some (.agg #[.slice none 0 0,.int .i64 0,.int .i64 0,.string (⟨#[]⟩ : ByteArray),.int .i64 0,.int .i64 0,.int .i64 0,.int .i64 0,.int .i64 0,.int .i64 0,.slice none 0 0,.int .i64 0,.int .i64 0,.int .i64 0]) := by kernel_rfl
theorem hp_122 : pureSem Tryz.prog ((Tryz.prog.fieldsOf 122).mapM fun f => do pure (f.offset, ← sizeOf f.type)) = some #[(0,1),(1,1),(2,7),(9,1),(10,1),(11,3)] := by kernel_rfl
end Go.Proofs.YtboejepakdnbgaaGreatDoor.K
