import Derived.Test.YtmaldbnnighojaaDoorN9
set_option linter.unusedVariables false
set_option linter.unusedSimpArgs false
namespace Go.Proofs.YtmaldbnnighojaaDoor.K
open Go Go.RowKit
structure api_Ref where
  Thread : Int
  Name : ByteArray
 deriving DecidableEq, Inhabited
def enc_api_Ref (x : api_Ref) : List Value := [.int .i64 x.Thread, .string x.Name]
theorem len_api_Ref (x : api_Ref) : (enc_api_Ref x).length = 2 := rfl
theorem one_api_Ref (x : api_Ref) : (enc_api_Ref x).all Value.oneCell' = true := rfl
structure api_Node where
  Op : Int
  A : Int
  B : Int
  Ref : api_Ref
  Value : Int
 deriving DecidableEq, Inhabited
def enc_api_Node (x : api_Node) : List Value := [.int .i64 x.Op, .int .i64 x.A, .int .i64 x.B, .int .i64 x.Ref.Thread, .string x.Ref.Name, .int .i64 x.Value]
theorem len_api_Node (x : api_Node) : (enc_api_Node x).length = 6 := rfl
theorem one_api_Node (x : api_Node) : (enc_api_Node x).all Value.oneCell' = true := rfl
theorem sub_api_Node_Ref {w : World} {b o : Nat} {x : api_Node} (h : Cells w ⟨b, o, none⟩ (enc_api_Node x)) : Cells w ⟨b, o + 3, none⟩ (enc_api_Ref x.Ref) :=
  h.mid' (pre := [.int .i64 x.Op] ++ [.int .i64 x.A] ++ [.int .i64 x.B]) (post := [.int .i64 x.Value]) rfl rfl
theorem zsub_api_Node_Ref {Z : Zm} {b o : Nat} {x : api_Node} (h : ZC Z b o (enc_api_Node x)) : ZC Z b (o + 3) (enc_api_Ref x.Ref) :=
  h.mid' (pre := [.int .i64 x.Op] ++ [.int .i64 x.A] ++ [.int .i64 x.B]) (post := [.int .i64 x.Value]) rfl rfl
theorem put_api_Node_Ref (x : api_Node) (y : api_Ref) : over (enc_api_Node x) 3 (enc_api_Ref y) = enc_api_Node (⟨x.Op, x.A, x.B, y, x.Value⟩ : api_Node) := rfl
end Go.Proofs.YtmaldbnnighojaaDoor.K
