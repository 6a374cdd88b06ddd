import Derived.Test.YtpmemdhgcelkoaaN9
set_option linter.unusedVariables false
set_option linter.unusedSimpArgs false
namespace Go.Proofs.Ytpmemdhgcelkoaa.K
open Go Go.RowKit
structure weirlaw15_Graph where
  To : List (List Int)
  Ends : Int
  Odd : Bool
  Holes : Int
 deriving DecidableEq, Inhabited
def rep_weirlaw15_Graph (Z : Zm) (x : weirlaw15_Graph) (cs : List Value) : Prop := ∃ (A0 : Option Addr) (c0 : Nat), cs = [.slice A0 x.To.length c0] ++ [.int .u64 x.Ends] ++ [.bool x.Odd] ++ [.int .i64 x.Holes] ∧ SlZ (repL (flat (encI .i64)) 1) 1 Z A0 c0 x.To
theorem mono_weirlaw15_Graph : Mono rep_weirlaw15_Graph := by
  rintro Z Z' x cs hz ⟨A0, c0, hc, h0⟩
  exact ⟨A0, c0, hc, SlZ.mono (mono_repL (mono_flat _)) h0 hz⟩
structure api_Pick where
  Thread : Int
  Kind : Int
  Loc : Int
 deriving DecidableEq, Inhabited
def enc_api_Pick (x : api_Pick) : List Value := [.int .i64 x.Thread, .int .i64 x.Kind, .int .i64 x.Loc]
theorem len_api_Pick (x : api_Pick) : (enc_api_Pick x).length = 3 := rfl
theorem one_api_Pick (x : api_Pick) : (enc_api_Pick x).all Value.oneCell' = true := rfl
structure api_Final where
  N : Int
  V : Vector Int 48
 deriving DecidableEq, Inhabited
def enc_api_Final (x : api_Final) : List Value := [.int .i64 x.N] ++ ((encV (encI .i64)) x.V)
theorem len_api_Final (x : api_Final) : (enc_api_Final x).length = 49 := by simp [enc_api_Final, encI, encB, encS, len_encV (len_encI .i64)]
theorem one_api_Final (x : api_Final) : (enc_api_Final x).all Value.oneCell' = true := by unfold enc_api_Final; simp only [List.all_append, Bool.and_eq_true]; refine ⟨rfl, (one_encV (one_encI .i64)) _⟩
theorem put_api_Final_N (x : api_Final) (y : Int) : over (enc_api_Final x) 0 ([.int .i64 y]) = enc_api_Final (⟨y, x.V⟩ : api_Final) := by
  refine (over_mid' (all := enc_api_Final x) (vs := [.int .i64 y]) (o := 0) (pre := []) (old := [.int .i64 x.N]) (post := ((encV (encI .i64)) x.V)) (by simp [enc_api_Final]) (by simp [encI, encB, encS]) rfl).trans ?_
  simp [enc_api_Final]
theorem sub_api_Final_V {w : World} {b o : Nat} {x : api_Final} (h : Cells w ⟨b, o, none⟩ (enc_api_Final x)) : Cells w ⟨b, o + 1, none⟩ ((encV (encI .i64)) x.V) :=
  h.mid' (pre := [.int .i64 x.N]) (post := []) (by simp [encI, encB, encS]) (by simp [enc_api_Final])
theorem zsub_api_Final_V {Z : Zm} {b o : Nat} {x : api_Final} (h : ZC Z b o (enc_api_Final x)) : ZC Z b (o + 1) ((encV (encI .i64)) x.V) :=
  h.mid' (pre := [.int .i64 x.N]) (post := []) (by simp [encI, encB, encS]) (by simp [enc_api_Final])
theorem put_api_Final_V (x : api_Final) (y : Vector Int 48) : over (enc_api_Final x) 1 ((encV (encI .i64)) y) = enc_api_Final (⟨x.N, y⟩ : api_Final) := by
  refine (over_mid' (all := enc_api_Final x) (vs := (encV (encI .i64)) y) (o := 1) (pre := [.int .i64 x.N]) (old := (encV (encI .i64)) x.V) (post := []) (by simp [enc_api_Final]) (by simp [encI, encB, encS]) (by rw [(len_encV (len_encI .i64)), (len_encV (len_encI .i64))])).trans ?_
  simp [enc_api_Final]
theorem over_api_Final_V (x : api_Final) (i : Int) (y : Int) (h0 : 0 ≤ i) (h1 : i < (48 : Nat)) : over (enc_api_Final x) (1 + i.toNat * 1) ((encI .i64) y) = enc_api_Final (⟨x.N, vset x.V i y⟩ : api_Final) := by
  have h := over_vset (o := 1) (enc := (encI .i64)) (v := x.V) (pre := [.int .i64 x.N]) (post := []) (x := y) (len_encI .i64) h0 h1 (by simp [encI, encB, encS])
  unfold enc_api_Final
  simpa using h
end Go.Proofs.Ytpmemdhgcelkoaa.K
