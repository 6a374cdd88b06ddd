import Derived.Test.YtboejepakdnbgaaGreatDoorN9
set_option linter.unusedVariables false
set_option linter.unusedSimpArgs false
namespace Go.Proofs.YtboejepakdnbgaaGreatDoor.K
open Go Go.RowKit
structure weirref05_Fault where
  Line : Int
  Col : Int
  Code : Int
 deriving DecidableEq, Inhabited
structure api_Ref where
  Thread : Int
  Name : ByteArray
 deriving DecidableEq, Inhabited
def enc_api_Ref (x : api_Ref) : List Value := [.int .i64 x.Thread, .string x.Name]
theorem len_api_Ref (x : api_Ref) : (enc_api_Ref x).length = 2 := rfl
theorem one_api_Ref (x : api_Ref) : (enc_api_Ref x).all Value.oneCell' = true := rfl
structure weirlaw06_Set where
  Refs : List api_Ref
  Values : List Int
  Rest : Int
 deriving DecidableEq, Inhabited
def rep_weirlaw06_Set (Z : Zm) (x : weirlaw06_Set) (cs : List Value) : Prop := ∃ (A0 : Option Addr) (c0 : Nat) (A1 : Option Addr) (c1 : Nat), cs = [.slice A0 x.Refs.length c0] ++ [.slice A1 x.Values.length c1] ++ [.int .i64 x.Rest] ∧ SlZ (flat enc_api_Ref) 2 Z A0 c0 x.Refs ∧ SlZ (flat (encI .i64)) 1 Z A1 c1 x.Values
structure api_Node where
  Op : Int
  A : Int
  B : Int
  Ref : api_Ref
  Value : Int
 deriving DecidableEq, Inhabited
def enc_api_Node (x : api_Node) : List Value := [.int .i64 x.Op, .int .i64 x.A, .int .i64 x.B, .int .i64 x.Ref.Thread, .string x.Ref.Name, .int .i64 x.Value]
theorem len_api_Node (x : api_Node) : (enc_api_Node x).length = 6 := rfl
theorem one_api_Node (x : api_Node) : (enc_api_Node x).all Value.oneCell' = true := rfl
theorem sub_api_Node_Ref {w : World} {b o : Nat} {x : api_Node} (h : Cells w ⟨b, o, none⟩ (enc_api_Node x)) : Cells w ⟨b, o + 3, none⟩ (enc_api_Ref x.Ref) :=
  h.mid' (pre := [.int .i64 x.Op] ++ [.int .i64 x.A] ++ [.int .i64 x.B]) (post := [.int .i64 x.Value]) rfl rfl
structure api_Token where
  Kind : Int
  Text : ByteArray
  Value : Int
  Line : Int
  Col : Int
  At : Int
  End : Int
 deriving DecidableEq, Inhabited
def enc_api_Token (x : api_Token) : List Value := [.int .i64 x.Kind, .string x.Text, .int .i64 x.Value, .int .i64 x.Line, .int .i64 x.Col, .int .i64 x.At, .int .i64 x.End]
theorem len_api_Token (x : api_Token) : (enc_api_Token x).length = 7 := rfl
theorem one_api_Token (x : api_Token) : (enc_api_Token x).all Value.oneCell' = true := rfl
structure cond_reader where
  l : List api_Token
  at_ : Int
  last : api_Token
  depth : Int
  c : List api_Node
 deriving DecidableEq, Inhabited
end Go.Proofs.YtboejepakdnbgaaGreatDoor.K
