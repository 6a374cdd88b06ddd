import Derived.Test.YtfiamlhhhkiiaaaN9
set_option linter.unusedVariables false
set_option linter.unusedSimpArgs false
namespace Go.Proofs.Ytfiamlhhhkiiaaa.K
open Go Go.RowKit
structure weirlaw14_Net where
  Next : List (List Int)
  End : List Bool
  Value : List Int
  Start : Int
 deriving DecidableEq, Inhabited
def rep_weirlaw14_Net (Z : Zm) (x : weirlaw14_Net) (cs : List Value) : Prop := ∃ (A0 : Option Addr) (c0 : Nat) (A1 : Option Addr) (c1 : Nat) (A2 : Option Addr) (c2 : Nat), cs = [.slice A0 x.Next.length c0] ++ [.slice A1 x.End.length c1] ++ [.slice A2 x.Value.length c2] ++ [.int .i64 x.Start] ∧ SlZ (repL (flat (encI .i64)) 1) 1 Z A0 c0 x.Next ∧ SlZ (flat encB) 1 Z A1 c1 x.End ∧ SlZ (flat (encI .i64)) 1 Z A2 c2 x.Value
theorem mono_weirlaw14_Net : Mono rep_weirlaw14_Net := by
  rintro Z Z' x cs hz ⟨A0, c0, A1, c1, A2, c2, hc, h0, h1, h2⟩
  exact ⟨A0, c0, A1, c1, A2, c2, hc, SlZ.mono (mono_repL (mono_flat _)) h0 hz, SlZ.mono (mono_flat _) h1 hz, SlZ.mono (mono_flat _) h2 hz⟩
structure api_Tally where
  States : Int
  Moves : Int
  Ends : Int
  Stuck : Int
 deriving DecidableEq, Inhabited
def enc_api_Tally (x : api_Tally) : List Value := [.int .i64 x.States, .int .i64 x.Moves, .int .i64 x.Ends, .int .i64 x.Stuck]
theorem len_api_Tally (x : api_Tally) : (enc_api_Tally x).length = 4 := rfl
theorem one_api_Tally (x : api_Tally) : (enc_api_Tally x).all Value.oneCell' = true := rfl
structure api_Final where
  N : Int
  V : Vector Int 48
 deriving DecidableEq, Inhabited
def enc_api_Final (x : api_Final) : List Value := [.int .i64 x.N] ++ ((encV (encI .i64)) x.V)
theorem len_api_Final (x : api_Final) : (enc_api_Final x).length = 49 := by simp [enc_api_Final, encI, encB, encS, len_encV (len_encI .i64)]
theorem one_api_Final (x : api_Final) : (enc_api_Final x).all Value.oneCell' = true := by unfold enc_api_Final; simp only [List.all_append, Bool.and_eq_true]; refine ⟨rfl, (one_encV (one_encI .i64)) _⟩
theorem put_api_Final_N (x : api_Final) (y : Int) : over (enc_api_Final x) 0 ([.int .i64 y]) = enc_api_Final (⟨y, x.V⟩ : api_Final) := by
  refine (over_mid' (all := enc_api_Final x) (vs := [.int .i64 y]) (o := 0) (pre := []) (old := [.int .i64 x.N]) (post := ((encV (encI .i64)) x.V)) (by simp [enc_api_Final]) (by simp [encI, encB, encS]) rfl).trans ?_
  simp [enc_api_Final]
theorem sub_api_Final_V {w : World} {b o : Nat} {x : api_Final} (h : Cells w ⟨b, o, none⟩ (enc_api_Final x)) : Cells w ⟨b, o + 1, none⟩ ((encV (encI .i64)) x.V) :=
  h.mid' (pre := [.int .i64 x.N]) (post := []) (by simp [encI, encB, encS]) (by simp [enc_api_Final])
theorem zsub_api_Final_V {Z : Zm} {b o : Nat} {x : api_Final} (h : ZC Z b o (enc_api_Final x)) : ZC Z b (o + 1) ((encV (encI .i64)) x.V) :=
  h.mid' (pre := [.int .i64 x.N]) (post := []) (by simp [encI, encB, encS]) (by simp [enc_api_Final])
theorem put_api_Final_V (x : api_Final) (y : Vector Int 48) : over (enc_api_Final x) 1 ((encV (encI .i64)) y) = enc_api_Final (⟨x.N, y⟩ : api_Final) := by
  refine (over_mid' (all := enc_api_Final x) (vs := (encV (encI .i64)) y) (o := 1) (pre := [.int .i64 x.N]) (old := (encV (encI .i64)) x.V) (post := []) (by simp [enc_api_Final]) (by simp [encI, encB, encS]) (by rw [(len_encV (len_encI .i64)), (len_encV (len_encI .i64))])).trans ?_
  simp [enc_api_Final]
theorem over_api_Final_V (x : api_Final) (i : Int) (y : Int) (h0 : 0 ≤ i) (h1 : i < (48 : Nat)) : over (enc_api_Final x) (1 + i.toNat * 1) ((encI .i64) y) = enc_api_Final (⟨x.N, vset x.V i y⟩ : api_Final) := by
  have h := over_vset (o := 1) (enc := (encI .i64)) (v := x.V) (pre := [.int .i64 x.N]) (post := []) (x := y) (len_encI .i64) h0 h1 (by simp [encI, encB, encS])
  unfold enc_api_Final
  simpa using h
structure api_Pick where
  Thread : Int
  Kind : Int
  Loc : Int
 deriving DecidableEq, Inhabited
def enc_api_Pick (x : api_Pick) : List Value := [.int .i64 x.Thread, .int .i64 x.Kind, .int .i64 x.Loc]
theorem len_api_Pick (x : api_Pick) : (enc_api_Pick x).length = 3 := rfl
theorem one_api_Pick (x : api_Pick) : (enc_api_Pick x).all Value.oneCell' = true := rfl
structure api_Way where
  Final : api_Final
  Picks : List api_Pick
 deriving DecidableEq, Inhabited
def rep_api_Way (Z : Zm) (x : api_Way) (cs : List Value) : Prop := ∃ (A1 : Option Addr) (c1 : Nat), cs = (enc_api_Final x.Final) ++ [.slice A1 x.Picks.length c1] ∧ SlZ (flat enc_api_Pick) 3 Z A1 c1 x.Picks
theorem mono_api_Way : Mono rep_api_Way := by
  rintro Z Z' x cs hz ⟨A1, c1, hc, h0⟩
  exact ⟨A1, c1, hc, SlZ.mono (mono_flat _) h0 hz⟩
structure weirref14_Move where
  To : Int
  Pick : api_Pick
 deriving DecidableEq, Inhabited
def enc_weirref14_Move (x : weirref14_Move) : List Value := [.int .i64 x.To, .int .i64 x.Pick.Thread, .int .i64 x.Pick.Kind, .int .i64 x.Pick.Loc]
theorem len_weirref14_Move (x : weirref14_Move) : (enc_weirref14_Move x).length = 4 := rfl
theorem one_weirref14_Move (x : weirref14_Move) : (enc_weirref14_Move x).all Value.oneCell' = true := rfl
theorem sub_weirref14_Move_Pick {w : World} {b o : Nat} {x : weirref14_Move} (h : Cells w ⟨b, o, none⟩ (enc_weirref14_Move x)) : Cells w ⟨b, o + 1, none⟩ (enc_api_Pick x.Pick) :=
  h.mid' (pre := [.int .i64 x.To]) (post := []) rfl rfl
theorem zsub_weirref14_Move_Pick {Z : Zm} {b o : Nat} {x : weirref14_Move} (h : ZC Z b o (enc_weirref14_Move x)) : ZC Z b (o + 1) (enc_api_Pick x.Pick) :=
  h.mid' (pre := [.int .i64 x.To]) (post := []) rfl rfl
theorem put_weirref14_Move_Pick (x : weirref14_Move) (y : api_Pick) : over (enc_weirref14_Move x) 1 (enc_api_Pick y) = enc_weirref14_Move (⟨x.To, y⟩ : weirref14_Move) := rfl
structure explore_visit where
  depth : Int
  from_ : ByteArray
  by_ : api_Pick
 deriving DecidableEq, Inhabited
def enc_explore_visit (x : explore_visit) : List Value := [.int .i64 x.depth, .string x.from_, .int .i64 x.by_.Thread, .int .i64 x.by_.Kind, .int .i64 x.by_.Loc]
theorem len_explore_visit (x : explore_visit) : (enc_explore_visit x).length = 5 := rfl
theorem one_explore_visit (x : explore_visit) : (enc_explore_visit x).all Value.oneCell' = true := rfl
theorem sub_explore_visit_by {w : World} {b o : Nat} {x : explore_visit} (h : Cells w ⟨b, o, none⟩ (enc_explore_visit x)) : Cells w ⟨b, o + 2, none⟩ (enc_api_Pick x.by_) :=
  h.mid' (pre := [.int .i64 x.depth] ++ [.string x.from_]) (post := []) rfl rfl
theorem zsub_explore_visit_by {Z : Zm} {b o : Nat} {x : explore_visit} (h : ZC Z b o (enc_explore_visit x)) : ZC Z b (o + 2) (enc_api_Pick x.by_) :=
  h.mid' (pre := [.int .i64 x.depth] ++ [.string x.from_]) (post := []) rfl rfl
theorem put_explore_visit_by (x : explore_visit) (y : api_Pick) : over (enc_explore_visit x) 2 (enc_api_Pick y) = enc_explore_visit (⟨x.depth, x.from_, y⟩ : explore_visit) := rfl
structure explore_edge where
  by_ : api_Pick
  to : ByteArray
 deriving DecidableEq, Inhabited
def enc_explore_edge (x : explore_edge) : List Value := [.int .i64 x.by_.Thread, .int .i64 x.by_.Kind, .int .i64 x.by_.Loc, .string x.to]
theorem len_explore_edge (x : explore_edge) : (enc_explore_edge x).length = 4 := rfl
theorem one_explore_edge (x : explore_edge) : (enc_explore_edge x).all Value.oneCell' = true := rfl
theorem sub_explore_edge_by {w : World} {b o : Nat} {x : explore_edge} (h : Cells w ⟨b, o, none⟩ (enc_explore_edge x)) : Cells w ⟨b, o + 0, none⟩ (enc_api_Pick x.by_) :=
  h.mid' (pre := []) (post := [.string x.to]) rfl rfl
theorem zsub_explore_edge_by {Z : Zm} {b o : Nat} {x : explore_edge} (h : ZC Z b o (enc_explore_edge x)) : ZC Z b (o + 0) (enc_api_Pick x.by_) :=
  h.mid' (pre := []) (post := [.string x.to]) rfl rfl
theorem put_explore_edge_by (x : explore_edge) (y : api_Pick) : over (enc_explore_edge x) 0 (enc_api_Pick y) = enc_explore_edge (⟨y, x.to⟩ : explore_edge) := rfl
end Go.Proofs.Ytfiamlhhhkiiaaa.K
