import Derived.Test.YtkhcbamlhckilaaGreatDoorN9
set_option linter.unusedVariables false
set_option linter.unusedSimpArgs false
namespace Go.Proofs.YtkhcbamlhckilaaGreatDoor.K
open Go Go.RowKit
structure api_Instr where
  Op : Int
  Reg : ByteArray
  Src : ByteArray
  Loc : ByteArray
  Imm : Int
 deriving DecidableEq, Inhabited
def enc_api_Instr (x : api_Instr) : List Value := [.int .i64 x.Op, .string x.Reg, .string x.Src, .string x.Loc, .int .i64 x.Imm]
theorem one_api_Instr (x : api_Instr) : (enc_api_Instr x).all Value.oneCell' = true := rfl
structure weirref05_Fault where
  Line : Int
  Col : Int
  Code : Int
 deriving DecidableEq, Inhabited
def enc_weirref05_Fault (x : weirref05_Fault) : List Value := [.int .i64 x.Line, .int .i64 x.Col, .int .i64 x.Code]
theorem len_weirref05_Fault (x : weirref05_Fault) : (enc_weirref05_Fault x).length = 3 := rfl
theorem one_weirref05_Fault (x : weirref05_Fault) : (enc_weirref05_Fault x).all Value.oneCell' = true := rfl
structure api_Token where
  Kind : Int
  Text : ByteArray
  Value : Int
  Line : Int
  Col : Int
  At : Int
  End : Int
 deriving DecidableEq, Inhabited
def enc_api_Token (x : api_Token) : List Value := [.int .i64 x.Kind, .string x.Text, .int .i64 x.Value, .int .i64 x.Line, .int .i64 x.Col, .int .i64 x.At, .int .i64 x.End]
theorem len_api_Token (x : api_Token) : (enc_api_Token x).length = 7 := rfl
theorem one_api_Token (x : api_Token) : (enc_api_Token x).all Value.oneCell' = true := rfl
structure api_Ref where
  Thread : Int
  Name : ByteArray
 deriving DecidableEq, Inhabited
def enc_api_Ref (x : api_Ref) : List Value := [.int .i64 x.Thread, .string x.Name]
theorem len_api_Ref (x : api_Ref) : (enc_api_Ref x).length = 2 := rfl
structure api_Init where
  Ref : api_Ref
  Value : Int
 deriving DecidableEq, Inhabited
def enc_api_Init (x : api_Init) : List Value := [.int .i64 x.Ref.Thread, .string x.Ref.Name, .int .i64 x.Value]
theorem len_api_Init (x : api_Init) : (enc_api_Init x).length = 3 := rfl
structure api_Node where
  Op : Int
  A : Int
  B : Int
  Ref : api_Ref
  Value : Int
 deriving DecidableEq, Inhabited
def enc_api_Node (x : api_Node) : List Value := [.int .i64 x.Op, .int .i64 x.A, .int .i64 x.B, .int .i64 x.Ref.Thread, .string x.Ref.Name, .int .i64 x.Value]
theorem len_api_Node (x : api_Node) : (enc_api_Node x).length = 6 := rfl
structure api_Test where
  Name : ByteArray
  Doc : ByteArray
  Inits : List api_Init
  Threads : List (List api_Instr)
  Watch : List api_Ref
  Quant : Int
  Cond : List api_Node
 deriving DecidableEq, Inhabited
structure weirref07_reader where
  L : List api_Token
  Bad : weirref05_Fault
  At : Int
  F : weirref05_Fault
  Test : api_Test
  Sets : List api_Token
  Cols : List api_Token
  Rows : List (List api_Token)
  Seen : List api_Token
  Cond : Int
 deriving DecidableEq, Inhabited
structure weirref05_Lexer where
  S : ByteArray
  At : Int
  F : weirref05_Fault
  from_ : Int
  line : Int
  col : Int
 deriving DecidableEq, Inhabited
def enc_weirref05_Lexer (x : weirref05_Lexer) : List Value := [.string x.S, .int .i64 x.At, .int .i64 x.F.Line, .int .i64 x.F.Col, .int .i64 x.F.Code, .int .i64 x.from_, .int .i64 x.line, .int .i64 x.col]
theorem sub_weirref05_Lexer_F {w : World} {b o : Nat} {x : weirref05_Lexer} (h : Cells w ⟨b, o, none⟩ (enc_weirref05_Lexer x)) : Cells w ⟨b, o + 2, none⟩ (enc_weirref05_Fault x.F) :=
  h.mid' (pre := [.string x.S] ++ [.int .i64 x.At]) (post := [.int .i64 x.from_] ++ [.int .i64 x.line] ++ [.int .i64 x.col]) rfl rfl
structure litmus_place where
  line : Int
  col : Int
 deriving DecidableEq, Inhabited
def enc_litmus_place (x : litmus_place) : List Value := [.int .i64 x.line, .int .i64 x.col]
end Go.Proofs.YtkhcbamlhckilaaGreatDoor.K
