import Derived.Test.YtdcdpigneonedaaGreatDoorN9
set_option linter.unusedVariables false
set_option linter.unusedSimpArgs false
namespace Go.Proofs.YtdcdpigneonedaaGreatDoor.K
open Go Go.RowKit
structure api_Token where
  Kind : Int
  Text : ByteArray
  Value : Int
  Line : Int
  Col : Int
  At : Int
  End : Int
 deriving DecidableEq, Inhabited
def enc_api_Token (x : api_Token) : List Value := [.int .i64 x.Kind, .string x.Text, .int .i64 x.Value, .int .i64 x.Line, .int .i64 x.Col, .int .i64 x.At, .int .i64 x.End]
theorem len_api_Token (x : api_Token) : (enc_api_Token x).length = 7 := rfl
theorem one_api_Token (x : api_Token) : (enc_api_Token x).all Value.oneCell' = true := rfl
structure weirref05_Fault where
  Line : Int
  Col : Int
  Code : Int
 deriving DecidableEq, Inhabited
def enc_weirref05_Fault (x : weirref05_Fault) : List Value := [.int .i64 x.Line, .int .i64 x.Col, .int .i64 x.Code]
theorem len_weirref05_Fault (x : weirref05_Fault) : (enc_weirref05_Fault x).length = 3 := rfl
theorem one_weirref05_Fault (x : weirref05_Fault) : (enc_weirref05_Fault x).all Value.oneCell' = true := rfl
structure api_Ref where
  Thread : Int
  Name : ByteArray
 deriving DecidableEq, Inhabited
def enc_api_Ref (x : api_Ref) : List Value := [.int .i64 x.Thread, .string x.Name]
theorem len_api_Ref (x : api_Ref) : (enc_api_Ref x).length = 2 := rfl
theorem one_api_Ref (x : api_Ref) : (enc_api_Ref x).all Value.oneCell' = true := rfl
structure api_Node where
  Op : Int
  A : Int
  B : Int
  Ref : api_Ref
  Value : Int
 deriving DecidableEq, Inhabited
def enc_api_Node (x : api_Node) : List Value := [.int .i64 x.Op, .int .i64 x.A, .int .i64 x.B, .int .i64 x.Ref.Thread, .string x.Ref.Name, .int .i64 x.Value]
theorem len_api_Node (x : api_Node) : (enc_api_Node x).length = 6 := rfl
theorem one_api_Node (x : api_Node) : (enc_api_Node x).all Value.oneCell' = true := rfl
theorem sub_api_Node_Ref {w : World} {b o : Nat} {x : api_Node} (h : Cells w ⟨b, o, none⟩ (enc_api_Node x)) : Cells w ⟨b, o + 3, none⟩ (enc_api_Ref x.Ref) :=
  h.mid' (pre := [.int .i64 x.Op] ++ [.int .i64 x.A] ++ [.int .i64 x.B]) (post := [.int .i64 x.Value]) rfl rfl
theorem zsub_api_Node_Ref {Z : Zm} {b o : Nat} {x : api_Node} (h : ZC Z b o (enc_api_Node x)) : ZC Z b (o + 3) (enc_api_Ref x.Ref) :=
  h.mid' (pre := [.int .i64 x.Op] ++ [.int .i64 x.A] ++ [.int .i64 x.B]) (post := [.int .i64 x.Value]) rfl rfl
theorem put_api_Node_Ref (x : api_Node) (y : api_Ref) : over (enc_api_Node x) 3 (enc_api_Ref y) = enc_api_Node (⟨x.Op, x.A, x.B, y, x.Value⟩ : api_Node) := rfl
structure cond_reader where
  l : List api_Token
  at_ : Int
  last : api_Token
  depth : Int
  c : List api_Node
 deriving DecidableEq, Inhabited
def rep_cond_reader (Z : Zm) (x : cond_reader) (cs : List Value) : Prop := ∃ (A0 : Option Addr) (c0 : Nat) (A4 : Option Addr) (c4 : Nat), cs = [.slice A0 x.l.length c0] ++ [.int .i64 x.at_] ++ (enc_api_Token x.last) ++ [.int .i64 x.depth] ++ [.slice A4 x.c.length c4] ∧ SlZ (flat enc_api_Token) 7 Z A0 c0 x.l ∧ SlZ (flat enc_api_Node) 6 Z A4 c4 x.c
theorem mono_cond_reader : Mono rep_cond_reader := by
  rintro Z Z' x cs hz ⟨A0, c0, A4, c4, hc, h0, h1⟩
  exact ⟨A0, c0, A4, c4, hc, SlZ.mono (mono_flat _) h0 hz, SlZ.mono (mono_flat _) h1 hz⟩
structure weirref06_reader where
  L : List api_Token
  At : Int
  Last : api_Token
  Deep : Int
  C : List api_Node
  F : weirref05_Fault
 deriving DecidableEq, Inhabited
def rep_weirref06_reader (Z : Zm) (x : weirref06_reader) (cs : List Value) : Prop := ∃ (A0 : Option Addr) (c0 : Nat) (A4 : Option Addr) (c4 : Nat), cs = [.slice A0 x.L.length c0] ++ [.int .i64 x.At] ++ (enc_api_Token x.Last) ++ [.int .i64 x.Deep] ++ [.slice A4 x.C.length c4] ++ (enc_weirref05_Fault x.F) ∧ SlZ (flat enc_api_Token) 7 Z A0 c0 x.L ∧ SlZ (flat enc_api_Node) 6 Z A4 c4 x.C
theorem mono_weirref06_reader : Mono rep_weirref06_reader := by
  rintro Z Z' x cs hz ⟨A0, c0, A4, c4, hc, h0, h1⟩
  exact ⟨A0, c0, A4, c4, hc, SlZ.mono (mono_flat _) h0 hz, SlZ.mono (mono_flat _) h1 hz⟩
end Go.Proofs.YtdcdpigneonedaaGreatDoor.K
