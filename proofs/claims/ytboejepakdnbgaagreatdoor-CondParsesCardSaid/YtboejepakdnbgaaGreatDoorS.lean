import Derived.Test.YtboejepakdnbgaaGreatDoorN9
set_option linter.unusedVariables false
set_option linter.unusedSimpArgs false
namespace Go.Proofs.YtboejepakdnbgaaGreatDoor.K
open Go Go.RowKit
structure weirref05_Fault where
  Line : Int
  Col : Int
  Code : Int
 deriving DecidableEq, Inhabited
def enc_weirref05_Fault (x : weirref05_Fault) : List Value := [.int .i64 x.Line, .int .i64 x.Col, .int .i64 x.Code]
theorem len_weirref05_Fault (x : weirref05_Fault) : (enc_weirref05_Fault x).length = 3 := rfl
theorem one_weirref05_Fault (x : weirref05_Fault) : (enc_weirref05_Fault x).all Value.oneCell' = true := rfl
structure api_Ref where
  Thread : Int
  Name : ByteArray
 deriving DecidableEq, Inhabited
def enc_api_Ref (x : api_Ref) : List Value := [.int .i64 x.Thread, .string x.Name]
theorem one_api_Ref (x : api_Ref) : (enc_api_Ref x).all Value.oneCell' = true := rfl
structure api_Node where
  Op : Int
  A : Int
  B : Int
  Ref : api_Ref
  Value : Int
 deriving DecidableEq, Inhabited
def enc_api_Node (x : api_Node) : List Value := [.int .i64 x.Op, .int .i64 x.A, .int .i64 x.B, .int .i64 x.Ref.Thread, .string x.Ref.Name, .int .i64 x.Value]
theorem len_api_Node (x : api_Node) : (enc_api_Node x).length = 6 := rfl
theorem one_api_Node (x : api_Node) : (enc_api_Node x).all Value.oneCell' = true := rfl
structure api_Token where
  Kind : Int
  Text : ByteArray
  Value : Int
  Line : Int
  Col : Int
  At : Int
  End : Int
 deriving DecidableEq, Inhabited
def enc_api_Token (x : api_Token) : List Value := [.int .i64 x.Kind, .string x.Text, .int .i64 x.Value, .int .i64 x.Line, .int .i64 x.Col, .int .i64 x.At, .int .i64 x.End]
theorem len_api_Token (x : api_Token) : (enc_api_Token x).length = 7 := rfl
theorem one_api_Token (x : api_Token) : (enc_api_Token x).all Value.oneCell' = true := rfl
structure cond_reader where
  l : List api_Token
  at_ : Int
  last : api_Token
  depth : Int
  c : List api_Node
 deriving DecidableEq, Inhabited
structure weirref06_reader where
  L : List api_Token
  At : Int
  Last : api_Token
  Deep : Int
  C : List api_Node
  F : weirref05_Fault
 deriving DecidableEq, Inhabited
structure weirref05_Lexer where
  S : ByteArray
  At : Int
  F : weirref05_Fault
  from_ : Int
  line : Int
  col : Int
 deriving DecidableEq, Inhabited
def enc_weirref05_Lexer (x : weirref05_Lexer) : List Value := [.string x.S, .int .i64 x.At, .int .i64 x.F.Line, .int .i64 x.F.Col, .int .i64 x.F.Code, .int .i64 x.from_, .int .i64 x.line, .int .i64 x.col]
theorem sub_weirref05_Lexer_F {w : World} {b o : Nat} {x : weirref05_Lexer} (h : Cells w ⟨b, o, none⟩ (enc_weirref05_Lexer x)) : Cells w ⟨b, o + 2, none⟩ (enc_weirref05_Fault x.F) :=
  h.mid' (pre := [.string x.S] ++ [.int .i64 x.At]) (post := [.int .i64 x.from_] ++ [.int .i64 x.line] ++ [.int .i64 x.col]) rfl rfl
end Go.Proofs.YtboejepakdnbgaaGreatDoor.K
