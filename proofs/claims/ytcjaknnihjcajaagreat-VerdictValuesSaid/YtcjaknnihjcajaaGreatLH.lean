/- Contracts of Go's library, laid at this program. -/
import Derived.Shelf.Small.Utf8
import Derived.Shelf.Small.Bits
import Derived.Shelf.Small.Strs
import Derived.Shelf.Strconv.Itoa0
import Derived.Shelf.Strings.Search1
import Derived.Shelf.Sort.Plain
import Derived.Shelf.Strings.Runes
import Derived.Shelf.Strings.IndexAny
import Derived.Shelf.Strings.AsciiSet
import Derived.Shelf.Strings.IndexAnyAll
import Derived.Shelf.Slices.In.SortNone
import Derived.Test.YtcjaknnihjcajaaGreatProg
namespace Go.Proofs.YtcjaknnihjcajaaGreat.K
open Go.Shelf Go.Proofs
def sh_lays106_ren : Go.Shelf.Ren := ⟨fun | 106 => 91 | 213 => 121 | 265 => 141 | n => n, fun | 9 => 9 | 3 => 3 | n => n, fun | n => n⟩
theorem sh_lays106 : Go.Proofs.Lays.n106 Tryz.prog sh_lays106_ren := {
 mixed := by kernel_rfl
 f106 := Tryz.func91.trans (congrArg some (by kernel_rfl))
 f213 := Tryz.func121.trans (congrArg some (by kernel_rfl))
 f265 := Tryz.func141.trans (congrArg some (by kernel_rfl))
 t3 := Tryz.underlying3
 a3 := Tryz.isAgg3
 z3 := Tryz.sizeOf3
 v3 := Tryz.zeroValue3
 t9 := Tryz.underlying9
 a9 := Tryz.isAgg9
 z9 := Tryz.sizeOf9
 v9 := Tryz.zeroValue9 }
open Go.RowKit in
theorem sh_strings_Compare (a b : ByteArray) (w : World) :
  Calls Tryz.prog 91 #[.string a, .string b] w fun e w' => e = .returned (.int .i64 (Lib.compareBytes a.data.toList b.data.toList)) ∧ w' = w := Any.strings_Compare sh_lays106 a b w
def sh_lays137_ren : Go.Shelf.Ren := ⟨fun | 137 => 160 | 217 => 175 | 266 => 180 | n => n, fun | 9 => 9 | 5 => 5 | 3 => 3 | n => n, fun | n => n⟩
theorem sh_lays137 : Go.Proofs.Lays.n137 Tryz.prog sh_lays137_ren := {
 mixed := by kernel_rfl
 f137 := Tryz.func160.trans (congrArg some (by kernel_rfl))
 f217 := Tryz.func175.trans (congrArg some (by kernel_rfl))
 f266 := Tryz.func180.trans (congrArg some (by kernel_rfl))
 t3 := Tryz.underlying3
 a3 := Tryz.isAgg3
 z3 := Tryz.sizeOf3
 v3 := Tryz.zeroValue3
 t5 := Tryz.underlying5
 a5 := Tryz.isAgg5
 z5 := Tryz.sizeOf5
 v5 := Tryz.zeroValue5
 t9 := Tryz.underlying9
 a9 := Tryz.isAgg9
 z9 := Tryz.sizeOf9
 v9 := Tryz.zeroValue9 }
open Go.RowKit in
theorem sh_strings_IndexByte (s : ByteArray) (c : Int) (w : World) :
  Calls Tryz.prog 160 #[.string s, .int .u8 c] w fun e w' => e = .returned (.int .i64 (Lib.indexByte s.data.toList c.toNat.toUInt8)) ∧ w' = w := Any.strings_IndexByte sh_lays137 s c w
def sh_lays190_ren : Go.Shelf.Ren := ⟨fun | 190 => 127 | 125 => 90 | 258 => 148 | 128 => 119 | 129 => 120 | 302 => 164 | 303 => 165 | 304 => 166 | 305 => 167 | 306 => 168 | 307 => 169 | 308 => 129 | 309 => 170 | 310 => 171 | 333 => 176 | 329 => 137 | 330 => 138 | 334 => 177 | 335 => 178 | 336 => 149 | 344 => 181 | n => n, fun | 31 => 24 | 9 => 9 | 3 => 3 | 46 => 159 | 0 => 0 | 51 => 184 | 53 => 186 | 4 => 4 | 183 => 178 | 182 => 177 | 131 => 74 | 5 => 5 | 218 => 195 | 222 => 199 | 228 => 210 | 229 => 211 | n => n, fun | n => n⟩
theorem sh_lays190 : Go.Proofs.Lays.n190 Tryz.prog sh_lays190_ren := {
 mixed := by kernel_rfl
 f125 := Tryz.func90.trans (congrArg some (by kernel_rfl))
 f128 := Tryz.func119.trans (congrArg some (by kernel_rfl))
 f129 := Tryz.func120.trans (congrArg some (by kernel_rfl))
 f190 := Tryz.func127.trans (congrArg some (by kernel_rfl))
 f258 := Tryz.func148.trans (congrArg some (by kernel_rfl))
 f302 := Tryz.func164.trans (congrArg some (by kernel_rfl))
 f303 := Tryz.func165.trans (congrArg some (by kernel_rfl))
 f304 := Tryz.func166.trans (congrArg some (by kernel_rfl))
 f305 := Tryz.func167.trans (congrArg some (by kernel_rfl))
 f306 := Tryz.func168.trans (congrArg some (by kernel_rfl))
 f307 := Tryz.func169.trans (congrArg some (by kernel_rfl))
 f308 := Tryz.func129.trans (congrArg some (by kernel_rfl))
 f309 := Tryz.func170.trans (congrArg some (by kernel_rfl))
 f310 := Tryz.func171.trans (congrArg some (by kernel_rfl))
 f329 := Tryz.func137.trans (congrArg some (by kernel_rfl))
 f330 := Tryz.func138.trans (congrArg some (by kernel_rfl))
 f333 := Tryz.func176.trans (congrArg some (by kernel_rfl))
 f334 := Tryz.func177.trans (congrArg some (by kernel_rfl))
 f335 := Tryz.func178.trans (congrArg some (by kernel_rfl))
 f336 := Tryz.func149.trans (congrArg some (by kernel_rfl))
 f344 := Tryz.func181.trans (congrArg some (by kernel_rfl))
 t0 := Tryz.underlying0
 a0 := Tryz.isAgg0
 z0 := Tryz.sizeOf0
 v0 := Tryz.zeroValue0
 t3 := Tryz.underlying3
 a3 := Tryz.isAgg3
 z3 := Tryz.sizeOf3
 v3 := Tryz.zeroValue3
 t4 := Tryz.underlying4
 a4 := Tryz.isAgg4
 z4 := Tryz.sizeOf4
 v4 := Tryz.zeroValue4
 t5 := Tryz.underlying5
 a5 := Tryz.isAgg5
 z5 := Tryz.sizeOf5
 v5 := Tryz.zeroValue5
 t9 := Tryz.underlying9
 a9 := Tryz.isAgg9
 z9 := Tryz.sizeOf9
 v9 := Tryz.zeroValue9
 t31 := Tryz.underlying24
 a31 := Tryz.isAgg24
 z31 := Tryz.sizeOf24
 v31 := Tryz.zeroValue24
 t46 := Tryz.underlying159
 a46 := Tryz.isAgg159
 z46 := Tryz.sizeOf159
 v46 := Tryz.zeroValue159
 t51 := Tryz.underlying184
 a51 := Tryz.isAgg184
 z51 := Tryz.sizeOf184
 v51 := Tryz.zeroValue184
 t53 := Tryz.underlying186
 a53 := Tryz.isAgg186
 z53 := Tryz.sizeOf186
 v53 := Tryz.zeroValue186
 t131 := Tryz.underlying74
 a131 := Tryz.isAgg74
 z131 := Tryz.sizeOf74
 v131 := Tryz.zeroValue74
 t182 := Tryz.underlying177
 a182 := Tryz.isAgg177
 z182 := Tryz.sizeOf177
 v182 := Tryz.zeroValue177
 t183 := Tryz.underlying178
 a183 := Tryz.isAgg178
 z183 := Tryz.sizeOf178
 v183 := Tryz.zeroValue178
 t218 := Tryz.underlying195
 a218 := Tryz.isAgg195
 z218 := Tryz.sizeOf195
 v218 := Tryz.zeroValue195
 t222 := Tryz.underlying199
 a222 := Tryz.isAgg199
 z222 := Tryz.sizeOf199
 v222 := Tryz.zeroValue199
 t228 := Tryz.underlying210
 a228 := Tryz.isAgg210
 z228 := Tryz.sizeOf210
 v228 := Tryz.zeroValue210
 t229 := Tryz.underlying211
 a229 := Tryz.isAgg211
 z229 := Tryz.sizeOf211
 v229 := Tryz.zeroValue211 }
end Go.Proofs.YtcjaknnihjcajaaGreat.K
