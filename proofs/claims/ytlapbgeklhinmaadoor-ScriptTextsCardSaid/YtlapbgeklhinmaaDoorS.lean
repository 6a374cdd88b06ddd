import Derived.Test.YtlapbgeklhinmaaDoorN9
set_option linter.unusedVariables false
set_option linter.unusedSimpArgs false
namespace Go.Proofs.YtlapbgeklhinmaaDoor.K
open Go Go.RowKit
structure api_Pick where
  Thread : Int
  Kind : Int
  Loc : Int
 deriving DecidableEq, Inhabited
def enc_api_Pick (x : api_Pick) : List Value := [.int .i64 x.Thread, .int .i64 x.Kind, .int .i64 x.Loc]
theorem len_api_Pick (x : api_Pick) : (enc_api_Pick x).length = 3 := rfl
theorem one_api_Pick (x : api_Pick) : (enc_api_Pick x).all Value.oneCell' = true := rfl
structure weirref05_Fault where
  Line : Int
  Col : Int
  Code : Int
 deriving DecidableEq, Inhabited
def enc_weirref05_Fault (x : weirref05_Fault) : List Value := [.int .i64 x.Line, .int .i64 x.Col, .int .i64 x.Code]
theorem len_weirref05_Fault (x : weirref05_Fault) : (enc_weirref05_Fault x).length = 3 := rfl
theorem one_weirref05_Fault (x : weirref05_Fault) : (enc_weirref05_Fault x).all Value.oneCell' = true := rfl
end Go.Proofs.YtlapbgeklhinmaaDoor.K
