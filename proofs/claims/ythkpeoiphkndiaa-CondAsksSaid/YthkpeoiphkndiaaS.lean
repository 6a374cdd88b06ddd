import Derived.Test.YthkpeoiphkndiaaN9
set_option linter.unusedVariables false
set_option linter.unusedSimpArgs false
namespace Go.Proofs.Ythkpeoiphkndiaa.K
open Go Go.RowKit
structure api_Ref where
  Thread : Int
  Name : ByteArray
 deriving DecidableEq, Inhabited
def enc_api_Ref (x : api_Ref) : List Value := [.int .i64 x.Thread, .string x.Name]
theorem len_api_Ref (x : api_Ref) : (enc_api_Ref x).length = 2 := rfl
theorem one_api_Ref (x : api_Ref) : (enc_api_Ref x).all Value.oneCell' = true := rfl
structure weirlaw06_Set where
  Refs : List api_Ref
  Values : List Int
  Rest : Int
 deriving DecidableEq, Inhabited
def rep_weirlaw06_Set (Z : Zm) (x : weirlaw06_Set) (cs : List Value) : Prop := ∃ (A0 : Option Addr) (c0 : Nat) (A1 : Option Addr) (c1 : Nat), cs = [.slice A0 x.Refs.length c0] ++ [.slice A1 x.Values.length c1] ++ [.int .i64 x.Rest] ∧ SlZ (flat enc_api_Ref) 2 Z A0 c0 x.Refs ∧ SlZ (flat (encI .i64)) 1 Z A1 c1 x.Values
theorem mono_weirlaw06_Set : Mono rep_weirlaw06_Set := by
  rintro Z Z' x cs hz ⟨A0, c0, A1, c1, hc, h0, h1⟩
  exact ⟨A0, c0, A1, c1, hc, SlZ.mono (mono_flat _) h0 hz, SlZ.mono (mono_flat _) h1 hz⟩
structure api_Node where
  Op : Int
  A : Int
  B : Int
  Ref : api_Ref
  Value : Int
 deriving DecidableEq, Inhabited
def enc_api_Node (x : api_Node) : List Value := [.int .i64 x.Op, .int .i64 x.A, .int .i64 x.B, .int .i64 x.Ref.Thread, .string x.Ref.Name, .int .i64 x.Value]
theorem len_api_Node (x : api_Node) : (enc_api_Node x).length = 6 := rfl
theorem one_api_Node (x : api_Node) : (enc_api_Node x).all Value.oneCell' = true := rfl
theorem sub_api_Node_Ref {w : World} {b o : Nat} {x : api_Node} (h : Cells w ⟨b, o, none⟩ (enc_api_Node x)) : Cells w ⟨b, o + 3, none⟩ (enc_api_Ref x.Ref) :=
  h.mid' (pre := [.int .i64 x.Op] ++ [.int .i64 x.A] ++ [.int .i64 x.B]) (post := [.int .i64 x.Value]) rfl rfl
theorem zsub_api_Node_Ref {Z : Zm} {b o : Nat} {x : api_Node} (h : ZC Z b o (enc_api_Node x)) : ZC Z b (o + 3) (enc_api_Ref x.Ref) :=
  h.mid' (pre := [.int .i64 x.Op] ++ [.int .i64 x.A] ++ [.int .i64 x.B]) (post := [.int .i64 x.Value]) rfl rfl
theorem put_api_Node_Ref (x : api_Node) (y : api_Ref) : over (enc_api_Node x) 3 (enc_api_Ref y) = enc_api_Node (⟨x.Op, x.A, x.B, y, x.Value⟩ : api_Node) := rfl
end Go.Proofs.Ythkpeoiphkndiaa.K
