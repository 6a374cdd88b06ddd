/- Big structs: their zero values, and where their fields lie. -/
import Derived.Test.YtkhcbamlhckilaaGreatDoorE
import Derived.Test.YtkhcbamlhckilaaGreatDoorNG
import Derived.Test.YtkhcbamlhckilaaGreatDoorNP
import Derived.Test.YtkhcbamlhckilaaGreatDoorNM
import Derived.Test.YtkhcbamlhckilaaGreatDoorNI
import Derived.Test.YtkhcbamlhckilaaGreatDoorNV
import Derived.Test.YtkhcbamlhckilaaGreatDoorNY
import Derived.Test.YtkhcbamlhckilaaGreatDoorNC
import Derived.Test.YtkhcbamlhckilaaGreatDoorNA
set_option maxRecDepth 100000
namespace Go.Proofs.YtkhcbamlhckilaaGreatDoor.K
open Go Go.RowKit
theorem hz_55 : pureSem Tryz.prog (zeroValue 55) = some (.agg #[.slice none 0 0,.int .i64 0,.int .i64 0,.int .i64 0,.int .i64 0,.int .i64 0,.int .i64 0,.int .i64 0,.string (⟨#[]⟩ : ByteArray),.string (⟨#[]⟩ : ByteArray),.slice none 0 0,.slice none 0 0,.slice none 0 0,.int .i64 0,.slice none 0 0,.slice none 0 0,.slice none 0 0,.slice none 0 0,.slice none 0 0,.int .i64 0]) := by kernel_rfl
theorem hp_55 : pureSem Tryz.prog ((Tryz.prog.fieldsOf 55).mapM fun f => do pure (f.offset, ← sizeOf f.type)) = some #[(0,1),(1,3),(4,1),(5,3),(8,7),(15,1),(16,1),(17,1),(18,1),(19,1)] := by kernel_rfl
theorem hz_70 : pureSem Tryz.prog (zeroValue 70) = some (.agg #[.pointer none,.slice none 0 0,.string (⟨#[]⟩ : ByteArray),.string (⟨#[]⟩ : ByteArray),.slice none 0 0,.slice none 0 0,.slice none 0 0,.int .i64 0,.slice none 0 0,.slice none 0 0,.slice none 0 0,.slice none 0 0,.slice none 0 0,.slice none 0 0,.nilIface]) := by kernel_rfl
theorem hp_70 : pureSem Tryz.prog ((Tryz.prog.fieldsOf 70).mapM fun f => do pure (f.offset, ← sizeOf f.type)) = some #[(0,1),(1,1),(2,7),(9,1),(10,1),(11,1),(12,1),(13,1),(14,1)] := by kernel_rfl
end Go.Proofs.YtkhcbamlhckilaaGreatDoor.K
