import Derived.Test.YtcjaknnihjcajaaGreatN9
set_option linter.unusedVariables false
set_option linter.unusedSimpArgs false
namespace Go.Proofs.YtcjaknnihjcajaaGreat.K
open Go Go.RowKit
structure api_Op where
  Kind : Int
  Reg : Int
  Src : Int
  Loc : Int
  Imm : Int
 deriving DecidableEq, Inhabited
def enc_api_Op (x : api_Op) : List Value := [.int .i64 x.Kind, .int .i64 x.Reg, .int .i64 x.Src, .int .i64 x.Loc, .int .i64 x.Imm]
theorem len_api_Op (x : api_Op) : (enc_api_Op x).length = 5 := rfl
theorem one_api_Op (x : api_Op) : (enc_api_Op x).all Value.oneCell' = true := rfl
structure api_Prog where
  Threads : List (List api_Op)
  Regs : List (List ByteArray)
  Locs : List ByteArray
  RegInit : List (List Int)
  LocInit : List Int
 deriving DecidableEq, Inhabited
def rep_api_Prog (Z : Zm) (x : api_Prog) (cs : List Value) : Prop := ∃ (A0 : Option Addr) (c0 : Nat) (A1 : Option Addr) (c1 : Nat) (A2 : Option Addr) (c2 : Nat) (A3 : Option Addr) (c3 : Nat) (A4 : Option Addr) (c4 : Nat), cs = [.slice A0 x.Threads.length c0] ++ [.slice A1 x.Regs.length c1] ++ [.slice A2 x.Locs.length c2] ++ [.slice A3 x.RegInit.length c3] ++ [.slice A4 x.LocInit.length c4] ∧ SlZ (repL (flat enc_api_Op) 5) 1 Z A0 c0 x.Threads ∧ SlZ (repL (flat encS) 1) 1 Z A1 c1 x.Regs ∧ SlZ (flat encS) 1 Z A2 c2 x.Locs ∧ SlZ (repL (flat (encI .i64)) 1) 1 Z A3 c3 x.RegInit ∧ SlZ (flat (encI .i64)) 1 Z A4 c4 x.LocInit
structure api_Ref where
  Thread : Int
  Name : ByteArray
 deriving DecidableEq, Inhabited
def enc_api_Ref (x : api_Ref) : List Value := [.int .i64 x.Thread, .string x.Name]
theorem len_api_Ref (x : api_Ref) : (enc_api_Ref x).length = 2 := rfl
theorem one_api_Ref (x : api_Ref) : (enc_api_Ref x).all Value.oneCell' = true := rfl
structure api_Init where
  Ref : api_Ref
  Value : Int
 deriving DecidableEq, Inhabited
def enc_api_Init (x : api_Init) : List Value := [.int .i64 x.Ref.Thread, .string x.Ref.Name, .int .i64 x.Value]
theorem one_api_Init (x : api_Init) : (enc_api_Init x).all Value.oneCell' = true := rfl
theorem sub_api_Init_Ref {w : World} {b o : Nat} {x : api_Init} (h : Cells w ⟨b, o, none⟩ (enc_api_Init x)) : Cells w ⟨b, o + 0, none⟩ (enc_api_Ref x.Ref) :=
 h.mid' (pre := []) (post := [.int .i64 x.Value]) rfl rfl
structure api_Instr where
  Op : Int
  Reg : ByteArray
  Src : ByteArray
  Loc : ByteArray
  Imm : Int
 deriving DecidableEq, Inhabited
def enc_api_Instr (x : api_Instr) : List Value := [.int .i64 x.Op, .string x.Reg, .string x.Src, .string x.Loc, .int .i64 x.Imm]
theorem one_api_Instr (x : api_Instr) : (enc_api_Instr x).all Value.oneCell' = true := rfl
structure api_Node where
  Op : Int
  A : Int
  B : Int
  Ref : api_Ref
  Value : Int
 deriving DecidableEq, Inhabited
def enc_api_Node (x : api_Node) : List Value := [.int .i64 x.Op, .int .i64 x.A, .int .i64 x.B, .int .i64 x.Ref.Thread, .string x.Ref.Name, .int .i64 x.Value]
theorem one_api_Node (x : api_Node) : (enc_api_Node x).all Value.oneCell' = true := rfl
theorem sub_api_Node_Ref {w : World} {b o : Nat} {x : api_Node} (h : Cells w ⟨b, o, none⟩ (enc_api_Node x)) : Cells w ⟨b, o + 3, none⟩ (enc_api_Ref x.Ref) :=
 h.mid' (pre := [.int .i64 x.Op] ++ [.int .i64 x.A] ++ [.int .i64 x.B]) (post := [.int .i64 x.Value]) rfl rfl
structure api_Test where
  Name : ByteArray
  Doc : ByteArray
  Inits : List api_Init
  Threads : List (List api_Instr)
  Watch : List api_Ref
  Quant : Int
  Cond : List api_Node
 deriving DecidableEq, Inhabited
def rep_api_Test (Z : Zm) (x : api_Test) (cs : List Value) : Prop := ∃ (A2 : Option Addr) (c2 : Nat) (A3 : Option Addr) (c3 : Nat) (A4 : Option Addr) (c4 : Nat) (A6 : Option Addr) (c6 : Nat), cs = [.string x.Name] ++ [.string x.Doc] ++ [.slice A2 x.Inits.length c2] ++ [.slice A3 x.Threads.length c3] ++ [.slice A4 x.Watch.length c4] ++ [.int .i64 x.Quant] ++ [.slice A6 x.Cond.length c6] ∧ SlZ (flat enc_api_Init) 3 Z A2 c2 x.Inits ∧ SlZ (repL (flat enc_api_Instr) 5) 1 Z A3 c3 x.Threads ∧ SlZ (flat enc_api_Ref) 2 Z A4 c4 x.Watch ∧ SlZ (flat enc_api_Node) 6 Z A6 c6 x.Cond
structure api_Final where
  N : Int
  V : Vector Int 48
 deriving DecidableEq, Inhabited
def enc_api_Final (x : api_Final) : List Value := [.int .i64 x.N] ++ ((encV (encI .i64)) x.V)
theorem len_api_Final (x : api_Final) : (enc_api_Final x).length = 49 := by simp [enc_api_Final, encI, encB, encS, len_encV (len_encI .i64)]
theorem one_api_Final (x : api_Final) : (enc_api_Final x).all Value.oneCell' = true := by unfold enc_api_Final; simp only [List.all_append, Bool.and_eq_true]; refine ⟨rfl, (one_encV (one_encI .i64)) _⟩
theorem sub_api_Final_V {w : World} {b o : Nat} {x : api_Final} (h : Cells w ⟨b, o, none⟩ (enc_api_Final x)) : Cells w ⟨b, o + 1, none⟩ ((encV (encI .i64)) x.V) :=
 h.mid' (pre := [.int .i64 x.N]) (post := []) (by simp [encI, encB, encS]) (by simp [enc_api_Final])
theorem zsub_api_Final_V {Z : Zm} {b o : Nat} {x : api_Final} (h : ZC Z b o (enc_api_Final x)) : ZC Z b (o + 1) ((encV (encI .i64)) x.V) :=
 h.mid' (pre := [.int .i64 x.N]) (post := []) (by simp [encI, encB, encS]) (by simp [enc_api_Final])
structure api_Where where
  Part : Int
  I : Int
  K : Int
 deriving DecidableEq, Inhabited
def enc_api_Where (x : api_Where) : List Value := [.int .i64 x.Part, .int .i64 x.I, .int .i64 x.K]
theorem one_api_Where (x : api_Where) : (enc_api_Where x).all Value.oneCell' = true := rfl
structure prog_uses where
  reg : Bool
  src : Bool
  loc : Bool
  imm : Bool
  events : Int
 deriving DecidableEq, Inhabited
def enc_prog_uses (x : prog_uses) : List Value := [.bool x.reg, .bool x.src, .bool x.loc, .bool x.imm, .int .i64 x.events]
theorem one_prog_uses (x : prog_uses) : (enc_prog_uses x).all Value.oneCell' = true := rfl
structure prog_known where
  regs : List (List ByteArray)
  locs : List ByteArray
 deriving DecidableEq, Inhabited
end Go.Proofs.YtcjaknnihjcajaaGreat.K
