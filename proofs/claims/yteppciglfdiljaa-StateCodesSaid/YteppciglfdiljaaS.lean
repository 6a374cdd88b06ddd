import Derived.Test.YteppciglfdiljaaK5
set_option linter.unusedVariables false
set_option linter.unusedSimpArgs false
namespace Go.Proofs.Yteppciglfdiljaa.K
open Go Go.RowKit
structure api_Final where
  N : Int
  V : Vector Int 48
 deriving DecidableEq, Inhabited
def enc_api_Final (x : api_Final) : List Value := [.int .i64 x.N] ++ (x.V.toList.map (Value.int .i64))
theorem len_api_Final (x : api_Final) : (enc_api_Final x).length = 49 := by simp [enc_api_Final]
theorem one_api_Final (x : api_Final) : (enc_api_Final x).all Value.oneCell' = true := by simp [enc_api_Final, Value.oneCell']
theorem sub_api_Final_V {w : World} {a : Addr} {x : api_Final} (h : Cells w a (enc_api_Final x)) : Cells w (a.add 1) (x.V.toList.map (Value.int .i64)) :=
  h.mid' (pre := [.int .i64 x.N]) (post := []) (by simp) (by simp [enc_api_Final])
theorem over_api_Final_V (x : api_Final) (i y : Int) (h0 : 0 ≤ i) (h1 : i < 48) : over (enc_api_Final x) (0 + 1 + i.toNat * 1) [.int .i64 y] = enc_api_Final ⟨x.N, vset x.V i y⟩ := by
  have hi : i.toNat < 48 := by omega
  rw [over_set, Nat.mul_one]
  simp [enc_api_Final, vset, List.set_append, Nat.add_comm, List.map_set]
end Go.Proofs.Yteppciglfdiljaa.K
