import Derived.Test.YtmgjnplkpmcleaaDoorN9
set_option linter.unusedVariables false
set_option linter.unusedSimpArgs false
namespace Go.Proofs.YtmgjnplkpmcleaaDoor.K
open Go Go.RowKit
structure api_Ref where
  Thread : Int
  Name : ByteArray
 deriving DecidableEq, Inhabited
def enc_api_Ref (x : api_Ref) : List Value := [.int .i64 x.Thread, .string x.Name]
theorem len_api_Ref (x : api_Ref) : (enc_api_Ref x).length = 2 := rfl
theorem one_api_Ref (x : api_Ref) : (enc_api_Ref x).all Value.oneCell' = true := rfl
structure api_Init where
  Ref : api_Ref
  Value : Int
 deriving DecidableEq, Inhabited
def enc_api_Init (x : api_Init) : List Value := [.int .i64 x.Ref.Thread, .string x.Ref.Name, .int .i64 x.Value]
theorem len_api_Init (x : api_Init) : (enc_api_Init x).length = 3 := rfl
theorem one_api_Init (x : api_Init) : (enc_api_Init x).all Value.oneCell' = true := rfl
theorem sub_api_Init_Ref {w : World} {b o : Nat} {x : api_Init} (h : Cells w ⟨b, o, none⟩ (enc_api_Init x)) : Cells w ⟨b, o + 0, none⟩ (enc_api_Ref x.Ref) :=
  h.mid' (pre := []) (post := [.int .i64 x.Value]) rfl rfl
theorem zsub_api_Init_Ref {Z : Zm} {b o : Nat} {x : api_Init} (h : ZC Z b o (enc_api_Init x)) : ZC Z b (o + 0) (enc_api_Ref x.Ref) :=
  h.mid' (pre := []) (post := [.int .i64 x.Value]) rfl rfl
theorem put_api_Init_Ref (x : api_Init) (y : api_Ref) : over (enc_api_Init x) 0 (enc_api_Ref y) = enc_api_Init (⟨y, x.Value⟩ : api_Init) := rfl
structure api_Instr where
  Op : Int
  Reg : ByteArray
  Src : ByteArray
  Loc : ByteArray
  Imm : Int
 deriving DecidableEq, Inhabited
def enc_api_Instr (x : api_Instr) : List Value := [.int .i64 x.Op, .string x.Reg, .string x.Src, .string x.Loc, .int .i64 x.Imm]
theorem len_api_Instr (x : api_Instr) : (enc_api_Instr x).length = 5 := rfl
theorem one_api_Instr (x : api_Instr) : (enc_api_Instr x).all Value.oneCell' = true := rfl
end Go.Proofs.YtmgjnplkpmcleaaDoor.K
