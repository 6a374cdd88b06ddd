/- Structs as keys of maps. -/
import Derived.Test.YtcjaknnihjcajaaGreatE
import Derived.Test.YtcjaknnihjcajaaGreatNH
set_option linter.unusedVariables false
set_option linter.unusedSimpArgs false
set_option maxRecDepth 100000
namespace Go.Proofs.YtcjaknnihjcajaaGreat.K
open Go Go.RowKit
theorem chk_api_Ref {w : World} {em : Bool} {d : Nat} (x : api_Ref) : (Instr.checkKey em (d + 2) 40 (.agg (enc_api_Ref x).toArray)).run Tryz.prog w = .ok () w :=
 chk_st (fs := [fld Tryz.prog 40 0, fld Tryz.prog 40 1]) (by kernel_rfl) (by kernel_rfl) (chkF_cons (a := .int .i64 x.Thread) (pureSem_run (by kernel_rfl)) (chk_int (k' := .i64) (x := x.Thread) (by kernel_rfl)) (chkF_cons (a := .string x.Name) (pureSem_run (by kernel_rfl)) (chk_str (x := x.Name) (by kernel_rfl)) chkF_nil))
theorem cells_api_Ref (x : api_Ref) : (enc_api_Ref x).all cell = true := by
 have hv : ∀ {n : Nat} (k : IntKind) (v : Vector Int n), (encV (encI k) v).all cell = true := fun k v => cells_encV (fun _ => rfl) v
 simp only [enc_api_Ref, List.all_append, List.all_cons, List.all_nil, cell, encI, encB, encS, Bool.and_self, Bool.and_true, Bool.true_and]
 try simp [hv]
abbrev eK_api_Ref (v : api_Ref) : Value := .agg (enc_api_Ref v).toArray
theorem key_api_Ref : KeyEnc Tryz.prog 40 (udk Tryz.prog 40) eK_api_Ref := .wide (by kernel_rfl) (fun w a em => chk_api_Ref (d := 9998) a) (fun w a b => eq_api_Ref (d := 9998) a b) cells_api_Ref
end Go.Proofs.YtcjaknnihjcajaaGreat.K
