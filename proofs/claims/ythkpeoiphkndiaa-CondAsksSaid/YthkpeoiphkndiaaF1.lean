/- The walk, part 1: each Go function as a plain Lean function, and that its call answers as that function says. No condition. -/
import Derived.Test.YthkpeoiphkndiaaE
import Derived.Test.YthkpeoiphkndiaaNS
import Derived.Test.YthkpeoiphkndiaaLS
import Derived.Test.YthkpeoiphkndiaaNM
import Derived.Test.YthkpeoiphkndiaaNV
set_option linter.unusedVariables false
set_option linter.unusedSimpArgs false
set_option maxRecDepth 100000
namespace Go.Proofs.Ythkpeoiphkndiaa.K
open Go Go.RowKit
noncomputable section
noncomputable def cd5 (p : List Nat) : Code := sub (bodyOf Try.f5) p
def weirlaw06_lent.f (a0 : List api_Node) : Option ((List api_Node) × Nat) :=
  (if 0 ≤ (IntKind.i64.wrap ((a0.length : Int) + 1)) ∧ (IntKind.i64.wrap ((a0.length : Int) + 1)) * 56 ≤ 140737488355328 then (if 0 ≤ (a0.length : Int) ∧ (a0.length : Int) < ((copyl (List.replicate (IntKind.i64.wrap ((a0.length : Int) + 1)).toNat (⟨0, 0, 0, ⟨0, (⟨#[]⟩ : ByteArray)⟩, 0⟩ : api_Node)) a0).length : Int) then (if 0 ≤ (a0.length : Int) ∧ (a0.length : Int) ≤ ((setl (copyl (List.replicate (IntKind.i64.wrap ((a0.length : Int) + 1)).toNat (⟨0, 0, 0, ⟨0, (⟨#[]⟩ : ByteArray)⟩, 0⟩ : api_Node)) a0) (a0.length : Int) (⟨77, 0, 0, (⟨0, (⟨#[]⟩ : ByteArray)⟩ : api_Ref), 0⟩ : api_Node)).length : Int) then some (((setl (copyl (List.replicate (IntKind.i64.wrap ((a0.length : Int) + 1)).toNat (⟨0, 0, 0, ⟨0, (⟨#[]⟩ : ByteArray)⟩, 0⟩ : api_Node)) a0) (a0.length : Int) (⟨77, 0, 0, (⟨0, (⟨#[]⟩ : ByteArray)⟩ : api_Ref), 0⟩ : api_Node)), (a0.length : Int).toNat)) else none) else none) else none)
set_option maxHeartbeats 16000000 in
theorem weirlaw06_lent.ok (a0 : List api_Node) (Aa0 : Option Addr) (ca0 : Nat) {w0 : World} {Z : Zm} {fs : List XObj} {w : World} (hS0 : St w0 Z (fs) w) (ha0 : SlZ (flat enc_api_Node) 6 Z Aa0 ca0 a0) {q0 : List api_Node} {q1 : Nat} (hp0 : weirlaw06_lent.f a0 = some (q0, q1)) :
    Calls Try.prog 5 #[.slice Aa0 a0.length ca0] w (fun e w' => ∃ (QA0 : Option Addr) (Qc0 : Nat), e = .returned (.slice QA0 q1 Qc0) ∧ St w0 Z (xrow QA0 Qc0 52 6 (q0.flatMap enc_api_Node) :: fs) w') := by
  refine calls_abs ?_; intro R hR
  unfold weirlaw06_lent.f at hp0
  refine calls_of_runs (fn := Try.f5) (c := cd5 []) Try.func5 (by kernel_rfl) (al := [.slice Aa0 a0.length ca0]) rfl (n := 19) rfl ?_
  refine sx_run 9 (todo' := [.inRegion (opsOf (cd5 [1, 0])) [3, 4], .code (cd5 [1, 1])]) (us := [(2, .slice none 0 0), (4, .slice Aa0 a0.length ca0), (5, .int .i64 (a0.length : Int)), (6, .int .i64 (IntKind.i64.wrap ((a0.length : Int) + 1)))]) (by kernel_rfl) ?_
  obtain ⟨g1, hp2⟩ := ite_some hp0
  refine r_make (c := (cd5 [1, 0])) (i := 3) (d := (some 7)) (ty := 23) (enc := enc_api_Node) (t := 23) (e := 52) (sz := 6) (bytes := 56) (info := infoOf Try.prog 52) (x := (.tmp 6)) (y := (.tmp 6)) (n := (IntKind.i64.wrap ((a0.length : Int) + 1))) (kk := .i64) (kc := .i64) (z := .agg (enc_api_Node (⟨0, 0, 0, ⟨0, (⟨#[]⟩ : ByteArray)⟩, 0⟩ : api_Node)).toArray) (x0 := (⟨0, 0, 0, ⟨0, (⟨#[]⟩ : ByteArray)⟩, 0⟩ : api_Node)) hS0 (by kernel_rfl) (by kernel_rfl) (by kernel_rfl) (by kernel_rfl) (by kernel_rfl) (by kernel_rfl) (by kernel_rfl) (by kernel_rfl) (by kernel_rfl) (by kernel_rfl) len_api_Node (by omega) g1 (by omega) ?_
  intro A3 w4 hS5
  refine Runs.fill (m := [none, none, none, none, none, none, none, some (.slice A3 (IntKind.i64.wrap ((a0.length : Int) + 1)).toNat (IntKind.i64.wrap ((a0.length : Int) + 1)).toNat), none, none, none, none, none, none, none, none, none, none, none, none]) (by kernel_rfl) ?_
  refine Runs.refill (m' := [none, none, none, none, none, none, none, some (.slice A3 (List.replicate (IntKind.i64.wrap ((a0.length : Int) + 1)).toNat (⟨0, 0, 0, ⟨0, (⟨#[]⟩ : ByteArray)⟩, 0⟩ : api_Node)).length ((IntKind.i64.wrap ((a0.length : Int) + 1)).toNat)), none, none, none, none, none, none, none, none, none, none, none, none]) (by simp only [List.length_replicate]) ?_
  refine sx_run 6 (todo' := [.inRegion (opsOf (cd5 [1, 1, 0])) [2], .code (cd5 [1, 1, 1])]) (us := [(3, .slice A3 (List.replicate (IntKind.i64.wrap ((a0.length : Int) + 1)).toNat (⟨0, 0, 0, ⟨0, (⟨#[]⟩ : ByteArray)⟩, 0⟩ : api_Node)).length ((IntKind.i64.wrap ((a0.length : Int) + 1)).toNat)), (8, .slice A3 (List.replicate (IntKind.i64.wrap ((a0.length : Int) + 1)).toNat (⟨0, 0, 0, ⟨0, (⟨#[]⟩ : ByteArray)⟩, 0⟩ : api_Node)).length ((IntKind.i64.wrap ((a0.length : Int) + 1)).toNat)), (9, .slice Aa0 a0.length ca0)]) (by kernel_rfl) ?_
  refine r_copy (c := (cd5 [1, 1, 0])) (i := 2) (d := (some 10)) (ty := 3) (enc := enc_api_Node) (e := 52) (t := 23) (t2 := 23) (sz := 6) (cp := ((IntKind.i64.wrap ((a0.length : Int) + 1)).toNat)) (A := A3) (xs := (List.replicate (IntKind.i64.wrap ((a0.length : Int) + 1)).toNat (⟨0, 0, 0, ⟨0, (⟨#[]⟩ : ByteArray)⟩, 0⟩ : api_Node))) (ys := a0) (s := (.tmp 8)) (x := (.tmp 9)) (xv := .slice Aa0 a0.length ca0) (ycs := a0.flatMap enc_api_Node) hS5 (by kernel_rfl) (by kernel_rfl) (by kernel_rfl) (by kernel_rfl) (by kernel_rfl) (by kernel_rfl) (by omega) len_api_Node one_api_Node (src_slz hS5 ha0 (by omega) len_api_Node) rfl ?_
  intro w7 hS8
  refine Runs.fill (m := [none, none, none, some (.slice A3 (List.replicate (IntKind.i64.wrap ((a0.length : Int) + 1)).toNat (⟨0, 0, 0, ⟨0, (⟨#[]⟩ : ByteArray)⟩, 0⟩ : api_Node)).length ((IntKind.i64.wrap ((a0.length : Int) + 1)).toNat)), none, none, none, some (.slice A3 (List.replicate (IntKind.i64.wrap ((a0.length : Int) + 1)).toNat (⟨0, 0, 0, ⟨0, (⟨#[]⟩ : ByteArray)⟩, 0⟩ : api_Node)).length ((IntKind.i64.wrap ((a0.length : Int) + 1)).toNat)), some (.slice A3 (List.replicate (IntKind.i64.wrap ((a0.length : Int) + 1)).toNat (⟨0, 0, 0, ⟨0, (⟨#[]⟩ : ByteArray)⟩, 0⟩ : api_Node)).length ((IntKind.i64.wrap ((a0.length : Int) + 1)).toNat)), none, none, none, none, none, none, none, none, none, none, none]) (by kernel_rfl) ?_
  refine Runs.refill (m' := [none, none, none, some (.slice A3 (copyl (List.replicate (IntKind.i64.wrap ((a0.length : Int) + 1)).toNat (⟨0, 0, 0, ⟨0, (⟨#[]⟩ : ByteArray)⟩, 0⟩ : api_Node)) a0).length ((IntKind.i64.wrap ((a0.length : Int) + 1)).toNat)), none, none, none, some (.slice A3 (copyl (List.replicate (IntKind.i64.wrap ((a0.length : Int) + 1)).toNat (⟨0, 0, 0, ⟨0, (⟨#[]⟩ : ByteArray)⟩, 0⟩ : api_Node)) a0).length ((IntKind.i64.wrap ((a0.length : Int) + 1)).toNat)), some (.slice A3 (copyl (List.replicate (IntKind.i64.wrap ((a0.length : Int) + 1)).toNat (⟨0, 0, 0, ⟨0, (⟨#[]⟩ : ByteArray)⟩, 0⟩ : api_Node)) a0).length ((IntKind.i64.wrap ((a0.length : Int) + 1)).toNat)), none, none, none, none, none, none, none, none, none, none, none]) (by simp only [copyl_len]) ?_
  refine sx_run 7 (todo' := [.inRegion (opsOf (cd5 [1, 1, 1, 0])) [4, 5], .code (cd5 [1, 1, 1, 1])]) (us := [(11, .slice A3 (copyl (List.replicate (IntKind.i64.wrap ((a0.length : Int) + 1)).toNat (⟨0, 0, 0, ⟨0, (⟨#[]⟩ : ByteArray)⟩, 0⟩ : api_Node)) a0).length ((IntKind.i64.wrap ((a0.length : Int) + 1)).toNat)), (12, .slice Aa0 a0.length ca0), (13, .int .i64 (a0.length : Int)), (14, .agg (enc_api_Node (⟨77, 0, 0, (⟨0, (⟨#[]⟩ : ByteArray)⟩ : api_Ref), 0⟩ : api_Node)).toArray)]) (by kernel_rfl) ?_
  obtain ⟨g9, hp10⟩ := ite_some hp2
  obtain ⟨b11, p12, hA13, -⟩ := (hS8.row 0 rfl).at_ len_api_Node (by omega) g9.1 g9.2
  refine r_indexAddr (c := (cd5 [1, 1, 1, 0])) (i := 4) (d := (some 15)) (ty := 0) (t := 23) (e := 52) (n := (copyl (List.replicate (IntKind.i64.wrap ((a0.length : Int) + 1)).toNat (⟨0, 0, 0, ⟨0, (⟨#[]⟩ : ByteArray)⟩, 0⟩ : api_Node)) a0).length) (cp := (IntKind.i64.wrap ((a0.length : Int) + 1)).toNat) (sz := 6) (kk := .i64) (x := (.tmp 11)) (y := (.tmp 13)) (b := b11) (o' := p12) (j := (a0.length : Int)) (by kernel_rfl) (by kernel_rfl) (slv (by kernel_rfl) hA13) (by kernel_rfl) (by kernel_rfl) (by kernel_rfl) g9.1 g9.2 ?_
  refine r_storeEl (c := (cd5 [1, 1, 1, 0])) (i := 5) (d := none) (ty := 0) (enc := enc_api_Node) (e := 52) (t := 52) (sz := 6) (cp := (IntKind.i64.wrap ((a0.length : Int) + 1)).toNat) (A := A3) (xs := (copyl (List.replicate (IntKind.i64.wrap ((a0.length : Int) + 1)).toNat (⟨0, 0, 0, ⟨0, (⟨#[]⟩ : ByteArray)⟩, 0⟩ : api_Node)) a0)) (x := (.tmp 15)) (y := (.tmp 14)) (el := gt (copyl (List.replicate (IntKind.i64.wrap ((a0.length : Int) + 1)).toNat (⟨0, 0, 0, ⟨0, (⟨#[]⟩ : ByteArray)⟩, 0⟩ : api_Node)) a0) (a0.length : Int)) (el' := (⟨77, 0, 0, (⟨0, (⟨#[]⟩ : ByteArray)⟩ : api_Ref), 0⟩ : api_Node)) (j := (a0.length : Int)) (off := 0) (b := b11) (p := p12) (v := .agg (enc_api_Node (⟨77, 0, 0, (⟨0, (⟨#[]⟩ : ByteArray)⟩ : api_Ref), 0⟩ : api_Node)).toArray) (vs := enc_api_Node (⟨77, 0, 0, (⟨0, (⟨#[]⟩ : ByteArray)⟩ : api_Ref), 0⟩ : api_Node)) (ad := ⟨b11, p12 + (a0.length : Int).toNat * 6, none⟩) hS8 (by kernel_rfl) (by kernel_rfl) (by kernel_rfl) (by simp) (by kernel_rfl) hA13 g9 rfl len_api_Node (by kernel_rfl) (by kernel_rfl) (one_api_Node _) (by rw [len_api_Node]; omega) (by rw [len_api_Node]; omega) (by kernel_rfl) ?_
  intro w15 hS16
  refine Runs.fill (m := [none, none, none, some (.slice A3 (copyl (List.replicate (IntKind.i64.wrap ((a0.length : Int) + 1)).toNat (⟨0, 0, 0, ⟨0, (⟨#[]⟩ : ByteArray)⟩, 0⟩ : api_Node)) a0).length ((IntKind.i64.wrap ((a0.length : Int) + 1)).toNat)), none, none, none, some (.slice A3 (copyl (List.replicate (IntKind.i64.wrap ((a0.length : Int) + 1)).toNat (⟨0, 0, 0, ⟨0, (⟨#[]⟩ : ByteArray)⟩, 0⟩ : api_Node)) a0).length ((IntKind.i64.wrap ((a0.length : Int) + 1)).toNat)), some (.slice A3 (copyl (List.replicate (IntKind.i64.wrap ((a0.length : Int) + 1)).toNat (⟨0, 0, 0, ⟨0, (⟨#[]⟩ : ByteArray)⟩, 0⟩ : api_Node)) a0).length ((IntKind.i64.wrap ((a0.length : Int) + 1)).toNat)), none, none, some (.slice A3 (copyl (List.replicate (IntKind.i64.wrap ((a0.length : Int) + 1)).toNat (⟨0, 0, 0, ⟨0, (⟨#[]⟩ : ByteArray)⟩, 0⟩ : api_Node)) a0).length ((IntKind.i64.wrap ((a0.length : Int) + 1)).toNat)), none, none, none, none, none, none, none, none]) (by kernel_rfl) ?_
  refine Runs.refill (m' := [none, none, none, some (.slice A3 (setl (copyl (List.replicate (IntKind.i64.wrap ((a0.length : Int) + 1)).toNat (⟨0, 0, 0, ⟨0, (⟨#[]⟩ : ByteArray)⟩, 0⟩ : api_Node)) a0) (a0.length : Int) (⟨77, 0, 0, (⟨0, (⟨#[]⟩ : ByteArray)⟩ : api_Ref), 0⟩ : api_Node)).length ((IntKind.i64.wrap ((a0.length : Int) + 1)).toNat)), none, none, none, some (.slice A3 (setl (copyl (List.replicate (IntKind.i64.wrap ((a0.length : Int) + 1)).toNat (⟨0, 0, 0, ⟨0, (⟨#[]⟩ : ByteArray)⟩, 0⟩ : api_Node)) a0) (a0.length : Int) (⟨77, 0, 0, (⟨0, (⟨#[]⟩ : ByteArray)⟩ : api_Ref), 0⟩ : api_Node)).length ((IntKind.i64.wrap ((a0.length : Int) + 1)).toNat)), some (.slice A3 (setl (copyl (List.replicate (IntKind.i64.wrap ((a0.length : Int) + 1)).toNat (⟨0, 0, 0, ⟨0, (⟨#[]⟩ : ByteArray)⟩, 0⟩ : api_Node)) a0) (a0.length : Int) (⟨77, 0, 0, (⟨0, (⟨#[]⟩ : ByteArray)⟩ : api_Ref), 0⟩ : api_Node)).length ((IntKind.i64.wrap ((a0.length : Int) + 1)).toNat)), none, none, some (.slice A3 (setl (copyl (List.replicate (IntKind.i64.wrap ((a0.length : Int) + 1)).toNat (⟨0, 0, 0, ⟨0, (⟨#[]⟩ : ByteArray)⟩, 0⟩ : api_Node)) a0) (a0.length : Int) (⟨77, 0, 0, (⟨0, (⟨#[]⟩ : ByteArray)⟩ : api_Ref), 0⟩ : api_Node)).length ((IntKind.i64.wrap ((a0.length : Int) + 1)).toNat)), none, none, none, none, none, none, none, none]) (by simp only [setl_len]) ?_
  refine sx_run 6 (todo' := [.inRegion (opsOf (cd5 [1, 1, 1, 1, 0])) [3, 4], .code (cd5 [1, 1, 1, 1, 1])]) (us := [(16, .slice A3 (setl (copyl (List.replicate (IntKind.i64.wrap ((a0.length : Int) + 1)).toNat (⟨0, 0, 0, ⟨0, (⟨#[]⟩ : ByteArray)⟩, 0⟩ : api_Node)) a0) (a0.length : Int) (⟨77, 0, 0, (⟨0, (⟨#[]⟩ : ByteArray)⟩ : api_Ref), 0⟩ : api_Node)).length ((IntKind.i64.wrap ((a0.length : Int) + 1)).toNat)), (17, .slice Aa0 a0.length ca0), (18, .int .i64 (a0.length : Int))]) (by kernel_rfl) ?_
  obtain ⟨g17, hp18⟩ := ite_some hp10
  have hc19 := (hS16.row 0 rfl).cap len_api_Node (by omega)
  have g20 : 0 ≤ (a0.length : Int) ∧ (a0.length : Int) ≤ ((IntKind.i64.wrap ((a0.length : Int) + 1)).toNat : Int) := by omega
  refine r_val (c := (cd5 [1, 1, 1, 1, 0])) (i := 3) (d := (some 19)) (ty := 23) (op := .slice 23 (.tmp 16) none (some (.tmp 18)) none) (v := .slice A3 ((a0.length : Int).toNat) ((IntKind.i64.wrap ((a0.length : Int) + 1)).toNat)) (by kernel_rfl) (by kernel_rfl) (fun o ho _ => x_cutSl_nsC (e := 52) (sz := 6) (A := A3) (n := (setl (copyl (List.replicate (IntKind.i64.wrap ((a0.length : Int) + 1)).toNat (⟨0, 0, 0, ⟨0, (⟨#[]⟩ : ByteArray)⟩, 0⟩ : api_Node)) a0) (a0.length : Int) (⟨77, 0, 0, (⟨0, (⟨#[]⟩ : ByteArray)⟩ : api_Ref), 0⟩ : api_Node)).length) (c := ((IntKind.i64.wrap ((a0.length : Int) + 1)).toNat)) (k := .i64) (by kernel_rfl) (by kernel_rfl) (by kernel_rfl) (by kernel_rfl) g20 cut0 ho) ?_
  refine sx_run 2 (todo' := [.code (cd5 [1, 1, 1, 1, 1])]) (us := [(2, .slice A3 ((a0.length : Int).toNat) ((IntKind.i64.wrap ((a0.length : Int) + 1)).toNat))]) (by kernel_rfl) ?_
  refine runs_ret (fn := Try.f5) (v := .slice A3 ((a0.length : Int).toNat) ((IntKind.i64.wrap ((a0.length : Int) + 1)).toNat)) Try.func5 (by kernel_rfl) ?_
  have hr21 := (Option.some.inj hp18)
  cases hr21
  exact hR _ _ ⟨A3, (IntKind.i64.wrap ((a0.length : Int) + 1)).toNat, rfl, hS16⟩

noncomputable def cd64 (p : List Nat) : Code := sub (bodyOf Try.f64) p
def lexis_letter.f (a0 : Int) : Option Bool :=
  (if (decide (a0 ≥ 97)) = true then (if (decide (a0 ≤ 122)) = true then some (true) else (if (decide (a0 ≥ 65)) = true then (if (decide (a0 ≤ 90)) = true then some (true) else (if (a0 == 95) = true then some (true) else some (false))) else (if (a0 == 95) = true then some (true) else some (false)))) else (if (decide (a0 ≥ 65)) = true then (if (decide (a0 ≤ 90)) = true then some (true) else (if (a0 == 95) = true then some (true) else some (false))) else (if (a0 == 95) = true then some (true) else some (false))))
set_option maxHeartbeats 16000000 in
theorem lexis_letter.ok (a0 : Int) {w0 : World} {Z : Zm} {fs : List XObj} {w : World} (hS0 : St w0 Z (fs) w) {q0 : Bool} (hp0 : lexis_letter.f a0 = some q0) :
    Calls Try.prog 64 #[.int .u8 a0] w (fun e w' => e = .returned (.bool q0) ∧ St w0 Z (fs) w') := by
  refine calls_abs ?_; intro R hR
  unfold lexis_letter.f at hp0
  refine calls_of_runs (fn := Try.f64) (c := cd64 []) Try.func64 (by kernel_rfl) (al := [.int .u8 a0]) rfl (n := 20) rfl ?_
  refine sx_split 8 (todo' := [.inRegion (opsOf (cd64 [1, 0])) [2, 3, 4, 5, 6, 7, 8, 9, 10, 11, 12, 13, 14, 15, 16, 17, 18], .code (cd64 [1, 1])]) (us := [(2, .bool false), (3, .int .u8 a0)]) (d := 4) (t := (decide (a0 ≥ 97))) (by kernel_rfl) (fun h1 => ?_) (fun h2 => ?_)
  ·skip
   have hp3 := ite_t hp0 h1
   refine sx_split 3 (todo' := [.inRegion (opsOf (cd64 [1, 0])) [5, 6, 7, 8, 9, 10, 11, 12, 13, 14, 15, 16, 17, 18], .code (cd64 [1, 1])]) (us := [(5, .bool true), (6, .int .u8 a0)]) (d := 7) (t := (decide (a0 ≤ 122))) (by kernel_rfl) (fun h4 => ?_) (fun h5 => ?_)
   ·skip
    have hp6 := ite_t hp3 h4
    refine sx_run 15 (todo' := [.code (cd64 [1, 1])]) (us := [(8, .bool true), (9, .bool true), (10, undef), (11, undef), (12, undef), (13, undef), (14, undef), (15, undef), (16, .bool true), (17, .bool true), (18, undef), (19, undef), (20, .bool true), (2, .bool true)]) (by kernel_rfl) ?_
    refine runs_ret (fn := Try.f64) (v := .bool true) Try.func64 (by kernel_rfl) ?_
    have hr7 := (Option.some.inj hp6)
    cases hr7
    exact hR _ _ ⟨rfl, hS0⟩
   ·skip
    have hp8 := ite_f hp3 h5
    refine sx_split 4 (todo' := [.inRegion (opsOf (cd64 [1, 0])) [9, 10, 11, 12, 13, 14, 15, 16, 17, 18], .code (cd64 [1, 1])]) (us := [(8, .bool false), (9, .bool false), (10, .int .u8 a0)]) (d := 11) (t := (decide (a0 ≥ 65))) (by kernel_rfl) (fun h9 => ?_) (fun h10 => ?_)
    ·skip
     have hp11 := ite_t hp8 h9
     refine sx_split 3 (todo' := [.inRegion (opsOf (cd64 [1, 0])) [12, 13, 14, 15, 16, 17, 18], .code (cd64 [1, 1])]) (us := [(12, .bool true), (13, .int .u8 a0)]) (d := 14) (t := (decide (a0 ≤ 90))) (by kernel_rfl) (fun h12 => ?_) (fun h13 => ?_)
     ·skip
      have hp14 := ite_t hp11 h12
      refine sx_run 8 (todo' := [.code (cd64 [1, 1])]) (us := [(15, .bool true), (16, .bool true), (17, .bool true), (18, undef), (19, undef), (20, .bool true), (2, .bool true)]) (by kernel_rfl) ?_
      refine runs_ret (fn := Try.f64) (v := .bool true) Try.func64 (by kernel_rfl) ?_
      have hr15 := (Option.some.inj hp14)
      cases hr15
      exact hR _ _ ⟨rfl, hS0⟩
     ·skip
      have hp16 := ite_f hp11 h13
      refine sx_split 5 (todo' := [.inRegion (opsOf (cd64 [1, 0])) [17, 18], .code (cd64 [1, 1])]) (us := [(15, .bool false), (16, .bool false), (17, .bool false), (18, .int .u8 a0)]) (d := 19) (t := (a0 == 95)) (by kernel_rfl) (fun h17 => ?_) (fun h18 => ?_)
      ·skip
       have hp19 := ite_t hp16 h17
       refine sx_run 3 (todo' := [.code (cd64 [1, 1])]) (us := [(20, .bool true), (2, .bool true)]) (by kernel_rfl) ?_
       refine runs_ret (fn := Try.f64) (v := .bool true) Try.func64 (by kernel_rfl) ?_
       have hr20 := (Option.some.inj hp19)
       cases hr20
       exact hR _ _ ⟨rfl, hS0⟩
      ·skip
       have hp21 := ite_f hp16 h18
       refine sx_run 3 (todo' := [.code (cd64 [1, 1])]) (us := [(20, .bool false), (2, .bool false)]) (by kernel_rfl) ?_
       refine runs_ret (fn := Try.f64) (v := .bool false) Try.func64 (by kernel_rfl) ?_
       have hr22 := (Option.some.inj hp21)
       cases hr22
       exact hR _ _ ⟨rfl, hS0⟩
    ·skip
     have hp23 := ite_f hp8 h10
     refine sx_split 8 (todo' := [.inRegion (opsOf (cd64 [1, 0])) [17, 18], .code (cd64 [1, 1])]) (us := [(12, .bool false), (13, undef), (14, undef), (15, .bool false), (16, .bool false), (17, .bool false), (18, .int .u8 a0)]) (d := 19) (t := (a0 == 95)) (by kernel_rfl) (fun h24 => ?_) (fun h25 => ?_)
     ·skip
      have hp26 := ite_t hp23 h24
      refine sx_run 3 (todo' := [.code (cd64 [1, 1])]) (us := [(20, .bool true), (2, .bool true)]) (by kernel_rfl) ?_
      refine runs_ret (fn := Try.f64) (v := .bool true) Try.func64 (by kernel_rfl) ?_
      have hr27 := (Option.some.inj hp26)
      cases hr27
      exact hR _ _ ⟨rfl, hS0⟩
     ·skip
      have hp28 := ite_f hp23 h25
      refine sx_run 3 (todo' := [.code (cd64 [1, 1])]) (us := [(20, .bool false), (2, .bool false)]) (by kernel_rfl) ?_
      refine runs_ret (fn := Try.f64) (v := .bool false) Try.func64 (by kernel_rfl) ?_
      have hr29 := (Option.some.inj hp28)
      cases hr29
      exact hR _ _ ⟨rfl, hS0⟩
  ·skip
   have hp30 := ite_f hp0 h2
   refine sx_split 7 (todo' := [.inRegion (opsOf (cd64 [1, 0])) [9, 10, 11, 12, 13, 14, 15, 16, 17, 18], .code (cd64 [1, 1])]) (us := [(5, .bool false), (6, undef), (7, undef), (8, .bool false), (9, .bool false), (10, .int .u8 a0)]) (d := 11) (t := (decide (a0 ≥ 65))) (by kernel_rfl) (fun h31 => ?_) (fun h32 => ?_)
   ·skip
    have hp33 := ite_t hp30 h31
    refine sx_split 3 (todo' := [.inRegion (opsOf (cd64 [1, 0])) [12, 13, 14, 15, 16, 17, 18], .code (cd64 [1, 1])]) (us := [(12, .bool true), (13, .int .u8 a0)]) (d := 14) (t := (decide (a0 ≤ 90))) (by kernel_rfl) (fun h34 => ?_) (fun h35 => ?_)
    ·skip
     have hp36 := ite_t hp33 h34
     refine sx_run 8 (todo' := [.code (cd64 [1, 1])]) (us := [(15, .bool true), (16, .bool true), (17, .bool true), (18, undef), (19, undef), (20, .bool true), (2, .bool true)]) (by kernel_rfl) ?_
     refine runs_ret (fn := Try.f64) (v := .bool true) Try.func64 (by kernel_rfl) ?_
     have hr37 := (Option.some.inj hp36)
     cases hr37
     exact hR _ _ ⟨rfl, hS0⟩
    ·skip
     have hp38 := ite_f hp33 h35
     refine sx_split 5 (todo' := [.inRegion (opsOf (cd64 [1, 0])) [17, 18], .code (cd64 [1, 1])]) (us := [(15, .bool false), (16, .bool false), (17, .bool false), (18, .int .u8 a0)]) (d := 19) (t := (a0 == 95)) (by kernel_rfl) (fun h39 => ?_) (fun h40 => ?_)
     ·skip
      have hp41 := ite_t hp38 h39
      refine sx_run 3 (todo' := [.code (cd64 [1, 1])]) (us := [(20, .bool true), (2, .bool true)]) (by kernel_rfl) ?_
      refine runs_ret (fn := Try.f64) (v := .bool true) Try.func64 (by kernel_rfl) ?_
      have hr42 := (Option.some.inj hp41)
      cases hr42
      exact hR _ _ ⟨rfl, hS0⟩
     ·skip
      have hp43 := ite_f hp38 h40
      refine sx_run 3 (todo' := [.code (cd64 [1, 1])]) (us := [(20, .bool false), (2, .bool false)]) (by kernel_rfl) ?_
      refine runs_ret (fn := Try.f64) (v := .bool false) Try.func64 (by kernel_rfl) ?_
      have hr44 := (Option.some.inj hp43)
      cases hr44
      exact hR _ _ ⟨rfl, hS0⟩
   ·skip
    have hp45 := ite_f hp30 h32
    refine sx_split 8 (todo' := [.inRegion (opsOf (cd64 [1, 0])) [17, 18], .code (cd64 [1, 1])]) (us := [(12, .bool false), (13, undef), (14, undef), (15, .bool false), (16, .bool false), (17, .bool false), (18, .int .u8 a0)]) (d := 19) (t := (a0 == 95)) (by kernel_rfl) (fun h46 => ?_) (fun h47 => ?_)
    ·skip
     have hp48 := ite_t hp45 h46
     refine sx_run 3 (todo' := [.code (cd64 [1, 1])]) (us := [(20, .bool true), (2, .bool true)]) (by kernel_rfl) ?_
     refine runs_ret (fn := Try.f64) (v := .bool true) Try.func64 (by kernel_rfl) ?_
     have hr49 := (Option.some.inj hp48)
     cases hr49
     exact hR _ _ ⟨rfl, hS0⟩
    ·skip
     have hp50 := ite_f hp45 h47
     refine sx_run 3 (todo' := [.code (cd64 [1, 1])]) (us := [(20, .bool false), (2, .bool false)]) (by kernel_rfl) ?_
     refine runs_ret (fn := Try.f64) (v := .bool false) Try.func64 (by kernel_rfl) ?_
     have hr51 := (Option.some.inj hp50)
     cases hr51
     exact hR _ _ ⟨rfl, hS0⟩

noncomputable def cd65 (p : List Nat) : Code := sub (bodyOf Try.f65) p
def lexis_byteAt.f (a0 : ByteArray) (a1 : Int) : Option Int :=
  (if (decide (a1 < (a0.size : Int))) = true then (if 0 ≤ a1 ∧ a1 < (a0.size : Int) then some ((byt a0 a1)) else none) else some (0))
set_option maxHeartbeats 16000000 in
theorem lexis_byteAt.ok (a0 : ByteArray) (a1 : Int) {w0 : World} {Z : Zm} {fs : List XObj} {w : World} (hS0 : St w0 Z (fs) w) {q0 : Int} (hp0 : lexis_byteAt.f a0 a1 = some q0) :
    Calls Try.prog 65 #[.string a0, .int .i64 a1] w (fun e w' => e = .returned (.int .u8 q0) ∧ St w0 Z (fs) w') := by
  refine calls_abs ?_; intro R hR
  unfold lexis_byteAt.f at hp0
  refine calls_of_runs (fn := Try.f65) (c := cd65 []) Try.func65 (by kernel_rfl) (al := [.string a0, .int .i64 a1]) rfl (n := 10) rfl ?_
  refine sx_split 11 (todo' := [.inRegion (opsOf (cd65 [1, 0, 0])) [], .code (cd65 [1, 0, 1]), .code (cd65 [1, 1])]) (us := [(4, .int .u8 0), (5, .int .i64 a1), (6, .string a0), (7, .int .i64 (a0.size : Int))]) (d := 8) (t := (decide (a1 < (a0.size : Int)))) (by kernel_rfl) (fun h1 => ?_) (fun h2 => ?_)
  ·skip
   have hp3 := ite_t hp0 h1
   refine sx_run 6 (todo' := [.inRegion (opsOf (cd65 [1, 0, 1, 0, 0])) [2, 3], .code (cd65 [1, 0, 1, 0, 1]), .code (cd65 [1, 1])]) (us := [(9, .string a0), (10, .int .i64 a1)]) (by kernel_rfl) ?_
   obtain ⟨g4, hp5⟩ := ite_some hp3
   refine r_val (c := (cd65 [1, 0, 1, 0, 0])) (i := 2) (d := (some 11)) (ty := 5) (op := .index 9 (.tmp 9) (.tmp 10)) (v := .int .u8 (byt a0 a1)) (by kernel_rfl) (by kernel_rfl) (fun o ho _ => x_indexStr (kk := .i64) (by kernel_rfl) (by kernel_rfl) (by kernel_rfl) g4.1 g4.2 ho) ?_
   refine sx_run 2 (todo' := [.code (cd65 [1, 0, 1, 0, 1]), .code (cd65 [1, 1])]) (us := [(4, .int .u8 (byt a0 a1))]) (by kernel_rfl) ?_
   refine runs_ret (fn := Try.f65) (v := .int .u8 (byt a0 a1)) Try.func65 (by kernel_rfl) ?_
   have hr6 := (Option.some.inj hp5)
   cases hr6
   exact hR _ _ ⟨rfl, hS0⟩
  ·skip
   have hp7 := ite_f hp0 h2
   refine sx_run 7 (todo' := [.code (cd65 [1, 1, 1])]) (us := [(4, .int .u8 0)]) (by kernel_rfl) ?_
   refine runs_ret (fn := Try.f65) (v := .int .u8 0) Try.func65 (by kernel_rfl) ?_
   have hr8 := (Option.some.inj hp7)
   cases hr8
   exact hR _ _ ⟨rfl, hS0⟩

noncomputable def cd66 (p : List Nat) : Code := sub (bodyOf Try.f66) p
def lexis_digit.f (a0 : Int) : Option Bool :=
  (if (decide (a0 ≥ 48)) = true then (if (decide (a0 ≤ 57)) = true then some (true) else some (false)) else some (false))
set_option maxHeartbeats 16000000 in
theorem lexis_digit.ok (a0 : Int) {w0 : World} {Z : Zm} {fs : List XObj} {w : World} (hS0 : St w0 Z (fs) w) {q0 : Bool} (hp0 : lexis_digit.f a0 = some q0) :
    Calls Try.prog 66 #[.int .u8 a0] w (fun e w' => e = .returned (.bool q0) ∧ St w0 Z (fs) w') := by
  refine calls_abs ?_; intro R hR
  unfold lexis_digit.f at hp0
  refine calls_of_runs (fn := Try.f66) (c := cd66 []) Try.func66 (by kernel_rfl) (al := [.int .u8 a0]) rfl (n := 8) rfl ?_
  refine sx_split 8 (todo' := [.inRegion (opsOf (cd66 [1, 0])) [2, 3, 4, 5, 6], .code (cd66 [1, 1])]) (us := [(2, .bool false), (3, .int .u8 a0)]) (d := 4) (t := (decide (a0 ≥ 48))) (by kernel_rfl) (fun h1 => ?_) (fun h2 => ?_)
  ·skip
   have hp3 := ite_t hp0 h1
   refine sx_split 3 (todo' := [.inRegion (opsOf (cd66 [1, 0])) [5, 6], .code (cd66 [1, 1])]) (us := [(5, .bool true), (6, .int .u8 a0)]) (d := 7) (t := (decide (a0 ≤ 57))) (by kernel_rfl) (fun h4 => ?_) (fun h5 => ?_)
   ·skip
    have hp6 := ite_t hp3 h4
    refine sx_run 3 (todo' := [.code (cd66 [1, 1])]) (us := [(8, .bool true), (2, .bool true)]) (by kernel_rfl) ?_
    refine runs_ret (fn := Try.f66) (v := .bool true) Try.func66 (by kernel_rfl) ?_
    have hr7 := (Option.some.inj hp6)
    cases hr7
    exact hR _ _ ⟨rfl, hS0⟩
   ·skip
    have hp8 := ite_f hp3 h5
    refine sx_run 3 (todo' := [.code (cd66 [1, 1])]) (us := [(8, .bool false), (2, .bool false)]) (by kernel_rfl) ?_
    refine runs_ret (fn := Try.f66) (v := .bool false) Try.func66 (by kernel_rfl) ?_
    have hr9 := (Option.some.inj hp8)
    cases hr9
    exact hR _ _ ⟨rfl, hS0⟩
  ·skip
   have hp10 := ite_f hp0 h2
   refine sx_run 6 (todo' := [.code (cd66 [1, 1])]) (us := [(5, .bool false), (6, undef), (7, undef), (8, .bool false), (2, .bool false)]) (by kernel_rfl) ?_
   refine runs_ret (fn := Try.f66) (v := .bool false) Try.func66 (by kernel_rfl) ?_
   have hr11 := (Option.some.inj hp10)
   cases hr11
   exact hR _ _ ⟨rfl, hS0⟩

noncomputable def cd60 (p : List Nat) : Code := sub (bodyOf Try.f60) p
def lexis_name.l0 (a0 : ByteArray) (t22 : Int) : Option Int :=
  (lexis_byteAt.f a0 t22 >>= (fun t33 => (lexis_byteAt.f a0 (IntKind.i64.wrap (t22 + 1)) >>= (fun t38 => (if (t22 == (a0.size : Int)) = true then some (t22) else (lexis_letter.f t33 >>= (fun t48 => (((if t48 = true then some (true) else (lexis_digit.f t33 >>= (fun t104 => (if t104 = true then some (true) else (if (t33 == 46) = true then some (true) else some (false)))))) : Option Bool) >>= (fun t56 => (if t56 = true then (lexis_name.l0 a0 (IntKind.i64.wrap (t22 + 1))) else (if (t33 == 43) = true then (lexis_letter.f t38 >>= (fun t66 => (if t66 = true then (lexis_name.l0 a0 (IntKind.i64.wrap (t22 + 1))) else (lexis_digit.f t38 >>= (fun t72 => (if t72 = true then (lexis_name.l0 a0 (IntKind.i64.wrap (t22 + 1))) else some (t22))))))) else (if (t33 == 45) = true then (lexis_letter.f t38 >>= (fun t85 => (if t85 = true then (lexis_name.l0 a0 (IntKind.i64.wrap (t22 + 1))) else (lexis_digit.f t38 >>= (fun t91 => (if t91 = true then (lexis_name.l0 a0 (IntKind.i64.wrap (t22 + 1))) else some (t22))))))) else some (t22)))))))))))))
 partial_fixpoint
def lexis_name.f (a0 : ByteArray) : Option Int :=
  (if (seq a0 (⟨#[]⟩ : ByteArray)) = true then some (0) else (if 0 ≤ (0 : Int) ∧ (0 : Int) < (a0.size : Int) then (lexis_letter.f (byt a0 (0 : Int)) >>= (fun t8 => (if (!t8) = true then some (0) else (lexis_name.l0 a0 1 >>= fun e => some e)))) else none))
set_option maxHeartbeats 16000000 in
theorem lexis_name.ok (a0 : ByteArray) {w0 : World} {Z : Zm} {fs : List XObj} {w : World} (hS0 : St w0 Z (fs) w) {q0 : Int} (hp0 : lexis_name.f a0 = some q0) :
    Calls Try.prog 60 #[.string a0] w (fun e w' => e = .returned (.int .i64 q0) ∧ St w0 Z (fs) w') := by
  refine calls_abs ?_; intro R hR
  unfold lexis_name.f at hp0
  refine calls_of_runs (fn := Try.f60) (c := cd60 []) Try.func60 (by kernel_rfl) (al := [.string a0]) rfl (n := 51) rfl ?_
  refine sx_split 9 (todo' := [.inRegion (opsOf (cd60 [1, 0, 0])) [2, 3, 4, 5, 6, 7], .code (cd60 [1, 0, 1]), .code (cd60 [1, 1])]) (us := [(2, .int .i64 0), (6, .string a0)]) (d := 7) (t := (seq a0 (⟨#[]⟩ : ByteArray))) (by kernel_rfl) (fun h1 => ?_) (fun h2 => ?_)
  ·skip
   have hp3 := ite_t hp0 h1
   refine sx_run 12 (todo' := [.code (cd60 [1, 0, 1, 0, 1]), .code (cd60 [1, 1])]) (us := [(8, .bool true), (9, undef), (10, undef), (11, undef), (12, undef), (13, .bool true), (2, .int .i64 0)]) (by kernel_rfl) ?_
   refine runs_ret (fn := Try.f60) (v := .int .i64 0) Try.func60 (by kernel_rfl) ?_
   have hr4 := (Option.some.inj hp3)
   cases hr4
   exact hR _ _ ⟨rfl, hS0⟩
  ·skip
   have hp5 := ite_f hp0 h2
   refine sx_run 2 (todo' := [.inRegion (opsOf (cd60 [1, 0, 0])) [4, 5, 6, 7], .code (cd60 [1, 0, 1]), .code (cd60 [1, 1])]) (us := [(8, .bool false), (9, .string a0)]) (by kernel_rfl) ?_
   obtain ⟨g6, hp7⟩ := ite_some hp5
   refine r_val (c := (cd60 [1, 0, 0])) (i := 4) (d := (some 10)) (ty := 5) (op := .index 9 (.tmp 9) (.const (.int .i64 0))) (v := .int .u8 (byt a0 (0 : Int))) (by kernel_rfl) (by kernel_rfl) (fun o ho _ => x_indexStr (kk := .i64) (by kernel_rfl) (by kernel_rfl) (by kernel_rfl) g6.1 g6.2 ho) ?_
   obtain ⟨t8, hr9, hp10⟩ := bind_some' hp7
   refine r_call1 (c := (cd60 [1, 0, 0])) (i := 5) (d := (some 11)) (g := 64) (args := #[.int .u8 (byt a0 (0 : Int))]) (by kernel_rfl) (by kernel_rfl) (by kernel_rfl) (by kernel_rfl) (lexis_letter.ok (byt a0 (0 : Int)) hS0 hr9) ?_
   rintro _ w11 ⟨rfl, hS12⟩
   refine ⟨.bool t8, rfl, ?_⟩
   refine sx_split 1 (todo' := [.inRegion (opsOf (cd60 [1, 0, 0])) [7], .code (cd60 [1, 0, 1]), .code (cd60 [1, 1])]) (us := []) (d := 12) (t := (!t8)) (by kernel_rfl) (fun h13 => ?_) (fun h14 => ?_)
   ·skip
    have hp15 := ite_t hp10 h13
    refine sx_run 7 (todo' := [.code (cd60 [1, 0, 1, 0, 1]), .code (cd60 [1, 1])]) (us := [(13, .bool true), (2, .int .i64 0)]) (by kernel_rfl) ?_
    refine runs_ret (fn := Try.f60) (v := .int .i64 0) Try.func60 (by kernel_rfl) ?_
    have hr16 := (Option.some.inj hp15)
    cases hr16
    exact hR _ _ ⟨rfl, hS12⟩
   ·skip
    have hp17 := ite_f hp10 h14
    refine sx_run 10 (todo' := [.code (cd60 [1, 1, 1, 0, 0]), .inLoop (cd60 [1, 1, 1, 0, 0]), .inBlock 0]) (us := [(13, .bool false), (3, .int .i64 1)]) (by kernel_rfl) ?_
    obtain ⟨v18, hv19, hp20⟩ := bind_some' hp17
    have hq21 : ∀ x, x = v18 → x = q0 := by intro x hx; subst hx; simpa using hp20
    have L31 : ∀ (t22 : Int) (e26 : Int), lexis_name.l0 a0 t22 = some e26 → e26 = v18 → ∀ (l25 : List Value) (w23 : World) (hS24 : St w0 Z (fs) w23), Runs Try.prog 60 [.code (cd60 [1, 1, 1, 0, 0]), .inLoop (cd60 [1, 1, 1, 0, 0]), .inBlock 0] (fill [some (.string a0), none, none, some (.int .i64 t22), none, none, none, none, none, none, none, none, none, none, none, none, none, none, none, none, none, none, none, none, none, none, none, none, none, none, none, none, none, none, none, none, none, none, none, none, none, none, none, none, none, none, none, none, none, none, none, none] l25) w23 R := by
     refine lexis_name.l0.partial_correctness a0 (fun t22 e26 => e26 = v18 → ∀ (l25 : List Value) (w23 : World) (hS24 : St w0 Z (fs) w23), Runs Try.prog 60 [.code (cd60 [1, 1, 1, 0, 0]), .inLoop (cd60 [1, 1, 1, 0, 0]), .inBlock 0] (fill [some (.string a0), none, none, some (.int .i64 t22), none, none, none, none, none, none, none, none, none, none, none, none, none, none, none, none, none, none, none, none, none, none, none, none, none, none, none, none, none, none, none, none, none, none, none, none, none, none, none, none, none, none, none, none, none, none, none, none] l25) w23 R) ?_
     intro rec30 ih29 t22 e26 hb28 he27 l25 w23 hS24
     have hq32 : ∀ x, id x = e26 → x = q0 := fun x hx => hq21 x (hx.trans he27)
     refine sx_run 6 (todo' := [.inRegion (opsOf (cd60 [1, 1, 1, 0, 0, 0, 0, 0])) [2, 3, 4, 5, 6, 7, 8], .code (cd60 [1, 1, 1, 0, 0, 0, 0, 1]), .inBlock 1, .code (cd60 [1, 1, 1, 0, 0, 1]), .inLoop (cd60 [1, 1, 1, 0, 0]), .inBlock 0]) (us := [(16, .string a0), (17, .int .i64 t22)]) (by kernel_rfl) ?_
     obtain ⟨t33, hr34, hp35⟩ := bind_some' hb28
     refine r_call1 (c := (cd60 [1, 1, 1, 0, 0, 0, 0, 0])) (i := 2) (d := (some 18)) (g := 65) (args := #[.string a0, .int .i64 t22]) (by kernel_rfl) (by kernel_rfl) (by kernel_rfl) (by kernel_rfl) (lexis_byteAt.ok a0 t22 hS24 hr34) ?_
     rintro _ w36 ⟨rfl, hS37⟩
     refine ⟨.int .u8 t33, rfl, ?_⟩
     refine sx_run 3 (todo' := [.inRegion (opsOf (cd60 [1, 1, 1, 0, 0, 0, 0, 0])) [6, 7, 8], .code (cd60 [1, 1, 1, 0, 0, 0, 0, 1]), .inBlock 1, .code (cd60 [1, 1, 1, 0, 0, 1]), .inLoop (cd60 [1, 1, 1, 0, 0]), .inBlock 0]) (us := [(19, .string a0), (20, .int .i64 t22), (21, .int .i64 (IntKind.i64.wrap (t22 + 1)))]) (by kernel_rfl) ?_
     obtain ⟨t38, hr39, hp40⟩ := bind_some' hp35
     refine r_call1 (c := (cd60 [1, 1, 1, 0, 0, 0, 0, 0])) (i := 6) (d := (some 22)) (g := 65) (args := #[.string a0, .int .i64 (IntKind.i64.wrap (t22 + 1))]) (by kernel_rfl) (by kernel_rfl) (by kernel_rfl) (by kernel_rfl) (lexis_byteAt.ok a0 (IntKind.i64.wrap (t22 + 1)) hS37 hr39) ?_
     rintro _ w41 ⟨rfl, hS42⟩
     refine ⟨.int .u8 t38, rfl, ?_⟩
     refine sx_split 10 (todo' := [.inRegion (opsOf (cd60 [1, 1, 1, 0, 0, 0, 0, 1, 0, 0])) [4], .code (cd60 [1, 1, 1, 0, 0, 0, 0, 1, 0, 1]), .inBlock 2, .inBlock 1, .code (cd60 [1, 1, 1, 0, 0, 1]), .inLoop (cd60 [1, 1, 1, 0, 0]), .inBlock 0]) (us := [(4, .int .u8 t33), (5, .int .u8 t38), (25, .int .i64 t22), (26, .string a0), (27, .int .i64 (a0.size : Int))]) (d := 28) (t := (t22 == (a0.size : Int))) (by kernel_rfl) (fun h43 => ?_) (fun h44 => ?_)
     ·skip
      have hp45 := ite_t hp40 h43
      refine sx_run 8 (todo' := [.code (cd60 [1, 1, 1, 0, 0, 0, 0, 1, 0, 1, 0, 1]), .inBlock 2, .inBlock 1, .code (cd60 [1, 1, 1, 0, 0, 1]), .inLoop (cd60 [1, 1, 1, 0, 0]), .inBlock 0]) (us := [(24, .bool true), (29, .int .i64 t22), (2, .int .i64 t22)]) (by kernel_rfl) ?_
      refine runs_ret (fn := Try.f60) (v := .int .i64 t22) Try.func60 (by kernel_rfl) ?_
      have hr46 := (hq32 _ (Option.some.inj hp45))
      cases hr46
      exact hR _ _ ⟨rfl, hS42⟩
     ·skip
      have hp47 := ite_f hp40 h44
      refine sx_run 7 (todo' := [.inRegion (opsOf (cd60 [1, 1, 1, 0, 0, 0, 0, 1, 0, 1, 1, 0, 0])) [1, 2], .code (cd60 [1, 1, 1, 0, 0, 0, 0, 1, 0, 1, 1, 0, 1]), .code (cd60 [1, 1, 1, 0, 0, 0, 0, 1, 0, 1, 1, 1]), .inBlock 2, .inBlock 1, .code (cd60 [1, 1, 1, 0, 0, 1]), .inLoop (cd60 [1, 1, 1, 0, 0]), .inBlock 0]) (us := [(24, .bool false), (31, .int .u8 t33)]) (by kernel_rfl) ?_
      obtain ⟨t48, hr49, hp50⟩ := bind_some' hp47
      refine r_call1 (c := (cd60 [1, 1, 1, 0, 0, 0, 0, 1, 0, 1, 1, 0, 0])) (i := 1) (d := (some 32)) (g := 64) (args := #[.int .u8 t33]) (by kernel_rfl) (by kernel_rfl) (by kernel_rfl) (by kernel_rfl) (lexis_letter.ok t33 hS42 hr49) ?_
      rintro _ w51 ⟨rfl, hS52⟩
      refine ⟨.bool t48, rfl, ?_⟩
      refine sx_run 2 (todo' := [.code (cd60 [1, 1, 1, 0, 0, 0, 0, 1, 0, 1, 1, 0, 1]), .code (cd60 [1, 1, 1, 0, 0, 0, 0, 1, 0, 1, 1, 1]), .inBlock 2, .inBlock 1, .code (cd60 [1, 1, 1, 0, 0, 1]), .inLoop (cd60 [1, 1, 1, 0, 0]), .inBlock 0]) (us := [(30, .bool t48)]) (by kernel_rfl) ?_
      obtain ⟨v53, hv54, hp55⟩ := bind_some' hp50
      have J59 : ∀ (t56 : Bool) (he61 : t56 = v53) (l60 : List Value) (w57 : World) (hS58 : St w0 Z (fs) w57), Runs Try.prog 60 [.code (cd60 [1, 1, 1, 0, 0, 0, 0, 1, 0, 1, 1, 1]), .inBlock 2, .inBlock 1, .code (cd60 [1, 1, 1, 0, 0, 1]), .inLoop (cd60 [1, 1, 1, 0, 0]), .inBlock 0] (fill [some (.string a0), none, none, some (.int .i64 t22), some (.int .u8 t33), some (.int .u8 t38), none, none, none, none, none, none, none, none, none, none, none, none, none, none, none, none, none, none, none, none, none, none, none, none, some (.bool t56), none, none, none, none, none, none, none, none, none, none, none, none, none, none, none, none, none, none, none, none, none] l60) w57 R := by
       intro t56 he61 l60 w57 hS58
       subst he61
       try dsimp only at hp55
       cases t56
       ·skip
        have hp62 := ite_f hp55 rfl
        refine sx_split 5 (todo' := [.inRegion (opsOf (cd60 [1, 1, 1, 0, 0, 0, 0, 1, 0, 1, 1, 1, 1, 0])) [2, 3, 4, 5, 6, 7, 8, 9, 10, 11, 12, 13, 14], .code (cd60 [1, 1, 1, 0, 0, 0, 0, 1, 0, 1, 1, 1, 1, 1]), .inBlock 2, .inBlock 1, .code (cd60 [1, 1, 1, 0, 0, 1]), .inLoop (cd60 [1, 1, 1, 0, 0]), .inBlock 0]) (us := [(38, .int .u8 t33)]) (d := 39) (t := (t33 == 43)) (by kernel_rfl) (fun h63 => ?_) (fun h64 => ?_)
        ·skip
         have hp65 := ite_t hp62 h63
         refine sx_run 6 (todo' := [.inRegion (opsOf (cd60 [1, 1, 1, 0, 0, 0, 0, 1, 0, 1, 1, 1, 1, 0])) [8, 9, 10, 11, 12, 13, 14], .code (cd60 [1, 1, 1, 0, 0, 0, 0, 1, 0, 1, 1, 1, 1, 1]), .inBlock 2, .inBlock 1, .code (cd60 [1, 1, 1, 0, 0, 1]), .inLoop (cd60 [1, 1, 1, 0, 0]), .inBlock 0]) (us := [(40, .bool true), (41, undef), (42, undef), (43, .bool true), (44, .bool true), (45, .int .u8 t38)]) (by kernel_rfl) ?_
         obtain ⟨t66, hr67, hp68⟩ := bind_some' hp65
         refine r_call1 (c := (cd60 [1, 1, 1, 0, 0, 0, 0, 1, 0, 1, 1, 1, 1, 0])) (i := 8) (d := (some 46)) (g := 64) (args := #[.int .u8 t38]) (by kernel_rfl) (by kernel_rfl) (by kernel_rfl) (by kernel_rfl) (lexis_letter.ok t38 hS58 hr67) ?_
         rintro _ w69 ⟨rfl, hS70⟩
         refine ⟨.bool t66, rfl, ?_⟩
         refine sx_run 1 (todo' := [.inRegion (opsOf (cd60 [1, 1, 1, 0, 0, 0, 0, 1, 0, 1, 1, 1, 1, 0])) [10, 11, 12, 13, 14], .code (cd60 [1, 1, 1, 0, 0, 0, 0, 1, 0, 1, 1, 1, 1, 1]), .inBlock 2, .inBlock 1, .code (cd60 [1, 1, 1, 0, 0, 1]), .inLoop (cd60 [1, 1, 1, 0, 0]), .inBlock 0]) (us := [(47, .bool t66)]) (by kernel_rfl) ?_
         cases t66
         ·skip
          have hp71 := ite_f hp68 rfl
          refine sx_run 1 (todo' := [.inRegion (opsOf (cd60 [1, 1, 1, 0, 0, 0, 0, 1, 0, 1, 1, 1, 1, 0])) [11, 12, 13, 14], .code (cd60 [1, 1, 1, 0, 0, 0, 0, 1, 0, 1, 1, 1, 1, 1]), .inBlock 2, .inBlock 1, .code (cd60 [1, 1, 1, 0, 0, 1]), .inLoop (cd60 [1, 1, 1, 0, 0]), .inBlock 0]) (us := [(48, .int .u8 t38)]) (by kernel_rfl) ?_
          obtain ⟨t72, hr73, hp74⟩ := bind_some' hp71
          refine r_call1 (c := (cd60 [1, 1, 1, 0, 0, 0, 0, 1, 0, 1, 1, 1, 1, 0])) (i := 11) (d := (some 49)) (g := 66) (args := #[.int .u8 t38]) (by kernel_rfl) (by kernel_rfl) (by kernel_rfl) (by kernel_rfl) (lexis_digit.ok t38 hS70 hr73) ?_
          rintro _ w75 ⟨rfl, hS76⟩
          refine ⟨.bool t72, rfl, ?_⟩
          refine sx_run 4 (todo' := [.code (cd60 [1, 1, 1, 0, 0, 0, 0, 1, 0, 1, 1, 1, 1, 1]), .inBlock 2, .inBlock 1, .code (cd60 [1, 1, 1, 0, 0, 1]), .inLoop (cd60 [1, 1, 1, 0, 0]), .inBlock 0]) (us := [(50, .bool t72), (51, .bool t72), (37, .bool t72)]) (by kernel_rfl) ?_
          cases t72
          ·skip
           have hp77 := ite_f hp74 rfl
           refine sx_run 6 (todo' := [.code (cd60 [1, 1, 1, 0, 0, 0, 0, 1, 0, 1, 1, 1, 1, 1, 1, 1]), .inBlock 2, .inBlock 1, .code (cd60 [1, 1, 1, 0, 0, 1]), .inLoop (cd60 [1, 1, 1, 0, 0]), .inBlock 0]) (us := [(23, .int .i64 t22), (2, .int .i64 t22)]) (by kernel_rfl) ?_
           refine runs_ret (fn := Try.f60) (v := .int .i64 t22) Try.func60 (by kernel_rfl) ?_
           have hr78 := (hq32 _ (Option.some.inj hp77))
           cases hr78
           exact hR _ _ ⟨rfl, hS76⟩
          ·skip
           have hp79 := ite_t hp74 rfl
           refine sx_run 9 (todo' := [.inLoop (cd60 [1, 1, 1, 0, 0]), .inBlock 0]) (us := [(14, .int .i64 t22), (15, .int .i64 (IntKind.i64.wrap (t22 + 1))), (3, .int .i64 (IntKind.i64.wrap (t22 + 1)))]) (by kernel_rfl) ?_
           refine sx_run 1 (todo' := [.code (cd60 [1, 1, 1, 0, 0]), .inLoop (cd60 [1, 1, 1, 0, 0]), .inBlock 0]) (us := []) (by kernel_rfl) ?_
           refine Runs.fill (m := [some (.string a0), none, none, some (.int .i64 (IntKind.i64.wrap (t22 + 1))), none, none, none, none, none, none, none, none, none, none, none, none, none, none, none, none, none, none, none, none, none, none, none, none, none, none, none, none, none, none, none, none, none, none, none, none, none, none, none, none, none, none, none, none, none, none, none, none]) (by kernel_rfl) ?_
           exact ih29 (IntKind.i64.wrap (t22 + 1)) _ hp79 he27 _ _ hS76
         ·skip
          have hp80 := ite_t hp68 rfl
          refine sx_run 15 (todo' := [.inLoop (cd60 [1, 1, 1, 0, 0]), .inBlock 0]) (us := [(48, undef), (49, undef), (50, .bool true), (51, .bool true), (37, .bool true), (14, .int .i64 t22), (15, .int .i64 (IntKind.i64.wrap (t22 + 1))), (3, .int .i64 (IntKind.i64.wrap (t22 + 1)))]) (by kernel_rfl) ?_
          refine sx_run 1 (todo' := [.code (cd60 [1, 1, 1, 0, 0]), .inLoop (cd60 [1, 1, 1, 0, 0]), .inBlock 0]) (us := []) (by kernel_rfl) ?_
          refine Runs.fill (m := [some (.string a0), none, none, some (.int .i64 (IntKind.i64.wrap (t22 + 1))), none, none, none, none, none, none, none, none, none, none, none, none, none, none, none, none, none, none, none, none, none, none, none, none, none, none, none, none, none, none, none, none, none, none, none, none, none, none, none, none, none, none, none, none, none, none, none, none]) (by kernel_rfl) ?_
          exact ih29 (IntKind.i64.wrap (t22 + 1)) _ hp80 he27 _ _ hS70
        ·skip
         have hp81 := ite_f hp62 h64
         refine sx_split 3 (todo' := [.inRegion (opsOf (cd60 [1, 1, 1, 0, 0, 0, 0, 1, 0, 1, 1, 1, 1, 0])) [5, 6, 7, 8, 9, 10, 11, 12, 13, 14], .code (cd60 [1, 1, 1, 0, 0, 0, 0, 1, 0, 1, 1, 1, 1, 1]), .inBlock 2, .inBlock 1, .code (cd60 [1, 1, 1, 0, 0, 1]), .inLoop (cd60 [1, 1, 1, 0, 0]), .inBlock 0]) (us := [(40, .bool false), (41, .int .u8 t33)]) (d := 42) (t := (t33 == 45)) (by kernel_rfl) (fun h82 => ?_) (fun h83 => ?_)
         ·skip
          have hp84 := ite_t hp81 h82
          refine sx_run 3 (todo' := [.inRegion (opsOf (cd60 [1, 1, 1, 0, 0, 0, 0, 1, 0, 1, 1, 1, 1, 0])) [8, 9, 10, 11, 12, 13, 14], .code (cd60 [1, 1, 1, 0, 0, 0, 0, 1, 0, 1, 1, 1, 1, 1]), .inBlock 2, .inBlock 1, .code (cd60 [1, 1, 1, 0, 0, 1]), .inLoop (cd60 [1, 1, 1, 0, 0]), .inBlock 0]) (us := [(43, .bool true), (44, .bool true), (45, .int .u8 t38)]) (by kernel_rfl) ?_
          obtain ⟨t85, hr86, hp87⟩ := bind_some' hp84
          refine r_call1 (c := (cd60 [1, 1, 1, 0, 0, 0, 0, 1, 0, 1, 1, 1, 1, 0])) (i := 8) (d := (some 46)) (g := 64) (args := #[.int .u8 t38]) (by kernel_rfl) (by kernel_rfl) (by kernel_rfl) (by kernel_rfl) (lexis_letter.ok t38 hS58 hr86) ?_
          rintro _ w88 ⟨rfl, hS89⟩
          refine ⟨.bool t85, rfl, ?_⟩
          refine sx_run 1 (todo' := [.inRegion (opsOf (cd60 [1, 1, 1, 0, 0, 0, 0, 1, 0, 1, 1, 1, 1, 0])) [10, 11, 12, 13, 14], .code (cd60 [1, 1, 1, 0, 0, 0, 0, 1, 0, 1, 1, 1, 1, 1]), .inBlock 2, .inBlock 1, .code (cd60 [1, 1, 1, 0, 0, 1]), .inLoop (cd60 [1, 1, 1, 0, 0]), .inBlock 0]) (us := [(47, .bool t85)]) (by kernel_rfl) ?_
          cases t85
          ·skip
           have hp90 := ite_f hp87 rfl
           refine sx_run 1 (todo' := [.inRegion (opsOf (cd60 [1, 1, 1, 0, 0, 0, 0, 1, 0, 1, 1, 1, 1, 0])) [11, 12, 13, 14], .code (cd60 [1, 1, 1, 0, 0, 0, 0, 1, 0, 1, 1, 1, 1, 1]), .inBlock 2, .inBlock 1, .code (cd60 [1, 1, 1, 0, 0, 1]), .inLoop (cd60 [1, 1, 1, 0, 0]), .inBlock 0]) (us := [(48, .int .u8 t38)]) (by kernel_rfl) ?_
           obtain ⟨t91, hr92, hp93⟩ := bind_some' hp90
           refine r_call1 (c := (cd60 [1, 1, 1, 0, 0, 0, 0, 1, 0, 1, 1, 1, 1, 0])) (i := 11) (d := (some 49)) (g := 66) (args := #[.int .u8 t38]) (by kernel_rfl) (by kernel_rfl) (by kernel_rfl) (by kernel_rfl) (lexis_digit.ok t38 hS89 hr92) ?_
           rintro _ w94 ⟨rfl, hS95⟩
           refine ⟨.bool t91, rfl, ?_⟩
           refine sx_run 4 (todo' := [.code (cd60 [1, 1, 1, 0, 0, 0, 0, 1, 0, 1, 1, 1, 1, 1]), .inBlock 2, .inBlock 1, .code (cd60 [1, 1, 1, 0, 0, 1]), .inLoop (cd60 [1, 1, 1, 0, 0]), .inBlock 0]) (us := [(50, .bool t91), (51, .bool t91), (37, .bool t91)]) (by kernel_rfl) ?_
           cases t91
           ·skip
            have hp96 := ite_f hp93 rfl
            refine sx_run 6 (todo' := [.code (cd60 [1, 1, 1, 0, 0, 0, 0, 1, 0, 1, 1, 1, 1, 1, 1, 1]), .inBlock 2, .inBlock 1, .code (cd60 [1, 1, 1, 0, 0, 1]), .inLoop (cd60 [1, 1, 1, 0, 0]), .inBlock 0]) (us := [(23, .int .i64 t22), (2, .int .i64 t22)]) (by kernel_rfl) ?_
            refine runs_ret (fn := Try.f60) (v := .int .i64 t22) Try.func60 (by kernel_rfl) ?_
            have hr97 := (hq32 _ (Option.some.inj hp96))
            cases hr97
            exact hR _ _ ⟨rfl, hS95⟩
           ·skip
            have hp98 := ite_t hp93 rfl
            refine sx_run 9 (todo' := [.inLoop (cd60 [1, 1, 1, 0, 0]), .inBlock 0]) (us := [(14, .int .i64 t22), (15, .int .i64 (IntKind.i64.wrap (t22 + 1))), (3, .int .i64 (IntKind.i64.wrap (t22 + 1)))]) (by kernel_rfl) ?_
            refine sx_run 1 (todo' := [.code (cd60 [1, 1, 1, 0, 0]), .inLoop (cd60 [1, 1, 1, 0, 0]), .inBlock 0]) (us := []) (by kernel_rfl) ?_
            refine Runs.fill (m := [some (.string a0), none, none, some (.int .i64 (IntKind.i64.wrap (t22 + 1))), none, none, none, none, none, none, none, none, none, none, none, none, none, none, none, none, none, none, none, none, none, none, none, none, none, none, none, none, none, none, none, none, none, none, none, none, none, none, none, none, none, none, none, none, none, none, none, none]) (by kernel_rfl) ?_
            exact ih29 (IntKind.i64.wrap (t22 + 1)) _ hp98 he27 _ _ hS95
          ·skip
           have hp99 := ite_t hp87 rfl
           refine sx_run 15 (todo' := [.inLoop (cd60 [1, 1, 1, 0, 0]), .inBlock 0]) (us := [(48, undef), (49, undef), (50, .bool true), (51, .bool true), (37, .bool true), (14, .int .i64 t22), (15, .int .i64 (IntKind.i64.wrap (t22 + 1))), (3, .int .i64 (IntKind.i64.wrap (t22 + 1)))]) (by kernel_rfl) ?_
           refine sx_run 1 (todo' := [.code (cd60 [1, 1, 1, 0, 0]), .inLoop (cd60 [1, 1, 1, 0, 0]), .inBlock 0]) (us := []) (by kernel_rfl) ?_
           refine Runs.fill (m := [some (.string a0), none, none, some (.int .i64 (IntKind.i64.wrap (t22 + 1))), none, none, none, none, none, none, none, none, none, none, none, none, none, none, none, none, none, none, none, none, none, none, none, none, none, none, none, none, none, none, none, none, none, none, none, none, none, none, none, none, none, none, none, none, none, none, none, none]) (by kernel_rfl) ?_
           exact ih29 (IntKind.i64.wrap (t22 + 1)) _ hp99 he27 _ _ hS89
         ·skip
          have hp100 := ite_f hp81 h83
          refine sx_run 17 (todo' := [.code (cd60 [1, 1, 1, 0, 0, 0, 0, 1, 0, 1, 1, 1, 1, 1, 1, 1]), .inBlock 2, .inBlock 1, .code (cd60 [1, 1, 1, 0, 0, 1]), .inLoop (cd60 [1, 1, 1, 0, 0]), .inBlock 0]) (us := [(43, .bool false), (44, .bool false), (45, undef), (46, undef), (47, undef), (48, undef), (49, undef), (50, undef), (51, .bool false), (37, .bool false), (23, .int .i64 t22), (2, .int .i64 t22)]) (by kernel_rfl) ?_
          refine runs_ret (fn := Try.f60) (v := .int .i64 t22) Try.func60 (by kernel_rfl) ?_
          have hr101 := (hq32 _ (Option.some.inj hp100))
          cases hr101
          exact hR _ _ ⟨rfl, hS58⟩
       ·skip
        have hp102 := ite_t hp55 rfl
        refine sx_run 9 (todo' := [.inLoop (cd60 [1, 1, 1, 0, 0]), .inBlock 0]) (us := [(14, .int .i64 t22), (15, .int .i64 (IntKind.i64.wrap (t22 + 1))), (3, .int .i64 (IntKind.i64.wrap (t22 + 1)))]) (by kernel_rfl) ?_
        refine sx_run 1 (todo' := [.code (cd60 [1, 1, 1, 0, 0]), .inLoop (cd60 [1, 1, 1, 0, 0]), .inBlock 0]) (us := []) (by kernel_rfl) ?_
        refine Runs.fill (m := [some (.string a0), none, none, some (.int .i64 (IntKind.i64.wrap (t22 + 1))), none, none, none, none, none, none, none, none, none, none, none, none, none, none, none, none, none, none, none, none, none, none, none, none, none, none, none, none, none, none, none, none, none, none, none, none, none, none, none, none, none, none, none, none, none, none, none, none]) (by kernel_rfl) ?_
        exact ih29 (IntKind.i64.wrap (t22 + 1)) _ hp102 he27 _ _ hS58
      cases t48
      ·skip
       have hp103 := ite_f hv54 rfl
       refine sx_run 4 (todo' := [.inRegion (opsOf (cd60 [1, 1, 1, 0, 0, 0, 0, 1, 0, 1, 1, 0, 1, 1, 0])) [1, 2], .code (cd60 [1, 1, 1, 0, 0, 0, 0, 1, 0, 1, 1, 0, 1, 1, 1]), .code (cd60 [1, 1, 1, 0, 0, 0, 0, 1, 0, 1, 1, 1]), .inBlock 2, .inBlock 1, .code (cd60 [1, 1, 1, 0, 0, 1]), .inLoop (cd60 [1, 1, 1, 0, 0]), .inBlock 0]) (us := [(33, .int .u8 t33)]) (by kernel_rfl) ?_
       obtain ⟨t104, hr105, hp106⟩ := bind_some' hp103
       refine r_call1 (c := (cd60 [1, 1, 1, 0, 0, 0, 0, 1, 0, 1, 1, 0, 1, 1, 0])) (i := 1) (d := (some 34)) (g := 66) (args := #[.int .u8 t33]) (by kernel_rfl) (by kernel_rfl) (by kernel_rfl) (by kernel_rfl) (lexis_digit.ok t33 hS52 hr105) ?_
       rintro _ w107 ⟨rfl, hS108⟩
       refine ⟨.bool t104, rfl, ?_⟩
       refine sx_run 2 (todo' := [.code (cd60 [1, 1, 1, 0, 0, 0, 0, 1, 0, 1, 1, 0, 1, 1, 1]), .code (cd60 [1, 1, 1, 0, 0, 0, 0, 1, 0, 1, 1, 1]), .inBlock 2, .inBlock 1, .code (cd60 [1, 1, 1, 0, 0, 1]), .inLoop (cd60 [1, 1, 1, 0, 0]), .inBlock 0]) (us := [(30, .bool t104)]) (by kernel_rfl) ?_
       cases t104
       ·skip
        have hp109 := ite_f hp106 rfl
        refine sx_split 4 (todo' := [.inRegion (opsOf (cd60 [1, 1, 1, 0, 0, 0, 0, 1, 0, 1, 1, 0, 1, 1, 1, 1])) [2], .code (cd60 [1, 1, 1, 0, 0, 0, 0, 1, 0, 1, 1, 1]), .inBlock 2, .inBlock 1, .code (cd60 [1, 1, 1, 0, 0, 1]), .inLoop (cd60 [1, 1, 1, 0, 0]), .inBlock 0]) (us := [(35, .int .u8 t33)]) (d := 36) (t := (t33 == 46)) (by kernel_rfl) (fun h110 => ?_) (fun h111 => ?_)
        ·skip
         have hp112 := ite_t hp109 h110
         refine sx_run 2 (todo' := [.code (cd60 [1, 1, 1, 0, 0, 0, 0, 1, 0, 1, 1, 1]), .inBlock 2, .inBlock 1, .code (cd60 [1, 1, 1, 0, 0, 1]), .inLoop (cd60 [1, 1, 1, 0, 0]), .inBlock 0]) (us := [(30, .bool true)]) (by kernel_rfl) ?_
         refine Runs.fill (m := [some (.string a0), none, none, some (.int .i64 t22), some (.int .u8 t33), some (.int .u8 t38), none, none, none, none, none, none, none, none, none, none, none, none, none, none, none, none, none, none, none, none, none, none, none, none, some (.bool true), none, none, none, none, none, none, none, none, none, none, none, none, none, none, none, none, none, none, none, none, none]) (by kernel_rfl) ?_
         exact J59 true (Option.some.inj hp112) _ _ hS108
        ·skip
         have hp113 := ite_f hp109 h111
         refine sx_run 2 (todo' := [.code (cd60 [1, 1, 1, 0, 0, 0, 0, 1, 0, 1, 1, 1]), .inBlock 2, .inBlock 1, .code (cd60 [1, 1, 1, 0, 0, 1]), .inLoop (cd60 [1, 1, 1, 0, 0]), .inBlock 0]) (us := [(30, .bool false)]) (by kernel_rfl) ?_
         refine Runs.fill (m := [some (.string a0), none, none, some (.int .i64 t22), some (.int .u8 t33), some (.int .u8 t38), none, none, none, none, none, none, none, none, none, none, none, none, none, none, none, none, none, none, none, none, none, none, none, none, some (.bool false), none, none, none, none, none, none, none, none, none, none, none, none, none, none, none, none, none, none, none, none, none]) (by kernel_rfl) ?_
         exact J59 false (Option.some.inj hp113) _ _ hS108
       ·skip
        have hp114 := ite_t hp106 rfl
        refine sx_run 2 (todo' := [.code (cd60 [1, 1, 1, 0, 0, 0, 0, 1, 0, 1, 1, 1]), .inBlock 2, .inBlock 1, .code (cd60 [1, 1, 1, 0, 0, 1]), .inLoop (cd60 [1, 1, 1, 0, 0]), .inBlock 0]) (us := []) (by kernel_rfl) ?_
        refine Runs.fill (m := [some (.string a0), none, none, some (.int .i64 t22), some (.int .u8 t33), some (.int .u8 t38), none, none, none, none, none, none, none, none, none, none, none, none, none, none, none, none, none, none, none, none, none, none, none, none, some (.bool true), none, none, none, none, none, none, none, none, none, none, none, none, none, none, none, none, none, none, none, none, none]) (by kernel_rfl) ?_
        exact J59 true (Option.some.inj hp114) _ _ hS108
      ·skip
       have hp115 := ite_t hv54 rfl
       refine sx_run 2 (todo' := [.code (cd60 [1, 1, 1, 0, 0, 0, 0, 1, 0, 1, 1, 1]), .inBlock 2, .inBlock 1, .code (cd60 [1, 1, 1, 0, 0, 1]), .inLoop (cd60 [1, 1, 1, 0, 0]), .inBlock 0]) (us := []) (by kernel_rfl) ?_
       refine Runs.fill (m := [some (.string a0), none, none, some (.int .i64 t22), some (.int .u8 t33), some (.int .u8 t38), none, none, none, none, none, none, none, none, none, none, none, none, none, none, none, none, none, none, none, none, none, none, none, none, some (.bool true), none, none, none, none, none, none, none, none, none, none, none, none, none, none, none, none, none, none, none, none, none]) (by kernel_rfl) ?_
       exact J59 true (Option.some.inj hp115) _ _ hS52
    refine Runs.fill (m := [some (.string a0), none, none, some (.int .i64 1), none, none, none, none, none, none, none, none, none, none, none, none, none, none, none, none, none, none, none, none, none, none, none, none, none, none, none, none, none, none, none, none, none, none, none, none, none, none, none, none, none, none, none, none, none, none, none, none]) (by kernel_rfl) ?_
    exact L31 1 _ hv19 rfl _ _ hS12

noncomputable def cd52 (p : List Nat) : Code := sub (bodyOf Try.f52) p
def lexis_Name.f (a0 : ByteArray) : Option Bool :=
  (if (!seq a0 (⟨#[]⟩ : ByteArray)) = true then (if (decide ((a0.size : Int) ≤ 64)) = true then (lexis_name.f a0 >>= (fun t7 => (if (t7 == (a0.size : Int)) = true then some (true) else some (false)))) else some (false)) else some (false))
set_option maxHeartbeats 16000000 in
theorem lexis_Name.ok (a0 : ByteArray) {w0 : World} {Z : Zm} {fs : List XObj} {w : World} (hS0 : St w0 Z (fs) w) {q0 : Bool} (hp0 : lexis_Name.f a0 = some q0) :
    Calls Try.prog 52 #[.string a0] w (fun e w' => e = .returned (.bool q0) ∧ St w0 Z (fs) w') := by
  refine calls_abs ?_; intro R hR
  unfold lexis_Name.f at hp0
  refine calls_of_runs (fn := Try.f52) (c := cd52 []) Try.func52 (by kernel_rfl) (al := [.string a0]) rfl (n := 16) rfl ?_
  refine sx_split 8 (todo' := [.inRegion (opsOf (cd52 [1, 0])) [2, 3, 4, 5, 6, 7, 8, 9, 10, 11, 12, 13, 14], .code (cd52 [1, 1])]) (us := [(2, .bool false), (3, .string a0)]) (d := 4) (t := (!seq a0 (⟨#[]⟩ : ByteArray))) (by kernel_rfl) (fun h1 => ?_) (fun h2 => ?_)
  ·skip
   have hp3 := ite_t hp0 h1
   refine sx_split 4 (todo' := [.inRegion (opsOf (cd52 [1, 0])) [6, 7, 8, 9, 10, 11, 12, 13, 14], .code (cd52 [1, 1])]) (us := [(5, .bool true), (6, .string a0), (7, .int .i64 (a0.size : Int))]) (d := 8) (t := (decide ((a0.size : Int) ≤ 64))) (by kernel_rfl) (fun h4 => ?_) (fun h5 => ?_)
   ·skip
    have hp6 := ite_t hp3 h4
    refine sx_run 3 (todo' := [.inRegion (opsOf (cd52 [1, 0])) [9, 10, 11, 12, 13, 14], .code (cd52 [1, 1])]) (us := [(9, .bool true), (10, .bool true), (11, .string a0)]) (by kernel_rfl) ?_
    obtain ⟨t7, hr8, hp9⟩ := bind_some' hp6
    refine r_call1 (c := (cd52 [1, 0])) (i := 9) (d := (some 12)) (g := 60) (args := #[.string a0]) (by kernel_rfl) (by kernel_rfl) (by kernel_rfl) (by kernel_rfl) (lexis_name.ok a0 hS0 hr8) ?_
    rintro _ w10 ⟨rfl, hS11⟩
    refine ⟨.int .i64 t7, rfl, ?_⟩
    refine sx_split 3 (todo' := [.inRegion (opsOf (cd52 [1, 0])) [13, 14], .code (cd52 [1, 1])]) (us := [(13, .string a0), (14, .int .i64 (a0.size : Int))]) (d := 15) (t := (t7 == (a0.size : Int))) (by kernel_rfl) (fun h12 => ?_) (fun h13 => ?_)
    ·skip
     have hp14 := ite_t hp9 h12
     refine sx_run 3 (todo' := [.code (cd52 [1, 1])]) (us := [(16, .bool true), (2, .bool true)]) (by kernel_rfl) ?_
     refine runs_ret (fn := Try.f52) (v := .bool true) Try.func52 (by kernel_rfl) ?_
     have hr15 := (Option.some.inj hp14)
     cases hr15
     exact hR _ _ ⟨rfl, hS11⟩
    ·skip
     have hp16 := ite_f hp9 h13
     refine sx_run 3 (todo' := [.code (cd52 [1, 1])]) (us := [(16, .bool false), (2, .bool false)]) (by kernel_rfl) ?_
     refine runs_ret (fn := Try.f52) (v := .bool false) Try.func52 (by kernel_rfl) ?_
     have hr17 := (Option.some.inj hp16)
     cases hr17
     exact hR _ _ ⟨rfl, hS11⟩
   ·skip
    have hp18 := ite_f hp3 h5
    refine sx_run 10 (todo' := [.code (cd52 [1, 1])]) (us := [(9, .bool false), (10, .bool false), (11, undef), (12, undef), (13, undef), (14, undef), (15, undef), (16, .bool false), (2, .bool false)]) (by kernel_rfl) ?_
    refine runs_ret (fn := Try.f52) (v := .bool false) Try.func52 (by kernel_rfl) ?_
    have hr19 := (Option.some.inj hp18)
    cases hr19
    exact hR _ _ ⟨rfl, hS0⟩
  ·skip
   have hp20 := ite_f hp0 h2
   refine sx_run 14 (todo' := [.code (cd52 [1, 1])]) (us := [(5, .bool false), (6, undef), (7, undef), (8, undef), (9, .bool false), (10, .bool false), (11, undef), (12, undef), (13, undef), (14, undef), (15, undef), (16, .bool false), (2, .bool false)]) (by kernel_rfl) ?_
   refine runs_ret (fn := Try.f52) (v := .bool false) Try.func52 (by kernel_rfl) ?_
   have hr21 := (Option.some.inj hp20)
   cases hr21
   exact hR _ _ ⟨rfl, hS0⟩

noncomputable def cd36 (p : List Nat) : Code := sub (bodyOf Try.f36) p
def cond_fields.f (a0 : api_Node) : Option Bool :=
  (if (a0.Op == 2) = true then (if (a0.A == 0) = true then (if (a0.B == 0) = true then (if (decide (a0.Ref.Thread ≥ (-1))) = true then (if (decide (a0.Ref.Thread ≤ 9999)) = true then (lexis_Name.f a0.Ref.Name >>= (fun t20 => some (t20))) else some (false)) else some (false)) else some (false)) else some (false)) else (if (a0.Op == 1) = true then (if (decide (a0 = (⟨1, 0, 0, (⟨0, (⟨#[]⟩ : ByteArray)⟩ : api_Ref), 0⟩ : api_Node))) = true then some (true) else some (false)) else (if (a0.Op == 3) = true then (if (a0.B == 0) = true then (if (decide (a0.Ref = (⟨0, (⟨#[]⟩ : ByteArray)⟩ : api_Ref))) = true then (if (a0.Value == 0) = true then some (true) else some (false)) else some (false)) else some (false)) else (((if (a0.Op == 4) = true then some (true) else (if (a0.Op == 5) = true then some (true) else some (false))) : Option Bool) >>= (fun t79 => (if t79 = true then (if (decide (a0.Ref = (⟨0, (⟨#[]⟩ : ByteArray)⟩ : api_Ref))) = true then (if (a0.Value == 0) = true then some (true) else some (false)) else some (false)) else some (false)))))))
set_option maxHeartbeats 16000000 in
theorem cond_fields.ok (a0 : api_Node) {w0 : World} {Z : Zm} {fs : List XObj} {w : World} (hS0 : St w0 Z (fs) w) {q0 : Bool} (hp0 : cond_fields.f a0 = some q0) :
    Calls Try.prog 36 #[.agg (enc_api_Node a0).toArray] w (fun e w' => e = .returned (.bool q0) ∧ St w0 Z (fs) w') := by
  refine calls_abs ?_; intro R hR
  unfold cond_fields.f at hp0
  refine calls_of_runs (fn := Try.f36) (c := cd36 []) Try.func36 (by kernel_rfl) (al := [.agg (enc_api_Node a0).toArray]) rfl (n := 65) rfl ?_
  refine sx_run 2 (todo' := [.inRegion (opsOf (cd36 [0])) [0, 1], .code (cd36 [1])]) (us := []) (by kernel_rfl) ?_
  refine r_box (c := (cd36 [0])) (i := 0) (d := (some 1)) (ty := 0) (x := (.tmp 0)) (v := .agg (enc_api_Node a0).toArray) (t := 52) (cs := enc_api_Node a0) hS0 (by kernel_rfl) (by kernel_rfl) (by kernel_rfl) (by kernel_rfl) ?_
  intro b1 w2 hS3
  refine sx_run 6 (todo' := [.inRegion (opsOf (cd36 [1, 0, 0])) [1], .code (cd36 [1, 0, 1]), .code (cd36 [1, 1])]) (us := [(2, .bool false), (3, .pointer (some ⟨b1, 0, none⟩))]) (by kernel_rfl) ?_
  refine r_load (c := (cd36 [1, 0, 0])) (i := 1) (d := (some 4)) (ty := 3) (t := 3) (x := (.tmp 3)) (p := ⟨b1, 0, none⟩) (v := .int .i64 a0.Op) (by kernel_rfl) (by kernel_rfl) (by kernel_rfl) (loads_at 0 (hS3.blk 0 rfl) (by kernel_rfl) (by kernel_rfl)) ?_
  refine sx_split 5 (todo' := [.inRegion (opsOf (cd36 [1, 0, 1, 0, 0])) [1], .code (cd36 [1, 0, 1, 0, 1]), .inBlock 0, .code (cd36 [1, 1])]) (us := []) (d := 6) (t := (a0.Op == 2)) (by kernel_rfl) (fun h5 => ?_) (fun h6 => ?_)
  ·skip
   have hp7 := ite_t hp0 h5
   refine sx_run 6 (todo' := [.inRegion (opsOf (cd36 [1, 0, 1, 0, 1, 0, 0])) [1, 2, 3, 4, 5, 6, 7, 8, 9, 10, 11, 12, 13, 14, 15, 16, 17, 18, 19, 20, 21, 22, 23, 24, 25, 26], .code (cd36 [1, 0, 1, 0, 1, 0, 1]), .inBlock 0, .code (cd36 [1, 1])]) (us := [(5, .bool true), (7, .pointer (some ⟨b1, 1, none⟩))]) (by kernel_rfl) ?_
   refine r_load (c := (cd36 [1, 0, 1, 0, 1, 0, 0])) (i := 1) (d := (some 8)) (ty := 3) (t := 3) (x := (.tmp 7)) (p := ⟨b1, 1, none⟩) (v := .int .i64 a0.A) (by kernel_rfl) (by kernel_rfl) (by kernel_rfl) (loads_at 1 (hS3.blk 0 rfl) (by kernel_rfl) (by kernel_rfl)) ?_
   refine sx_split 1 (todo' := [.inRegion (opsOf (cd36 [1, 0, 1, 0, 1, 0, 0])) [3, 4, 5, 6, 7, 8, 9, 10, 11, 12, 13, 14, 15, 16, 17, 18, 19, 20, 21, 22, 23, 24, 25, 26], .code (cd36 [1, 0, 1, 0, 1, 0, 1]), .inBlock 0, .code (cd36 [1, 1])]) (us := []) (d := 9) (t := (a0.A == 0)) (by kernel_rfl) (fun h8 => ?_) (fun h9 => ?_)
   ·skip
    have hp10 := ite_t hp7 h8
    refine sx_run 2 (todo' := [.inRegion (opsOf (cd36 [1, 0, 1, 0, 1, 0, 0])) [5, 6, 7, 8, 9, 10, 11, 12, 13, 14, 15, 16, 17, 18, 19, 20, 21, 22, 23, 24, 25, 26], .code (cd36 [1, 0, 1, 0, 1, 0, 1]), .inBlock 0, .code (cd36 [1, 1])]) (us := [(10, .bool true), (11, .pointer (some ⟨b1, 2, none⟩))]) (by kernel_rfl) ?_
    refine r_load (c := (cd36 [1, 0, 1, 0, 1, 0, 0])) (i := 5) (d := (some 12)) (ty := 3) (t := 3) (x := (.tmp 11)) (p := ⟨b1, 2, none⟩) (v := .int .i64 a0.B) (by kernel_rfl) (by kernel_rfl) (by kernel_rfl) (loads_at 2 (hS3.blk 0 rfl) (by kernel_rfl) (by kernel_rfl)) ?_
    refine sx_split 1 (todo' := [.inRegion (opsOf (cd36 [1, 0, 1, 0, 1, 0, 0])) [7, 8, 9, 10, 11, 12, 13, 14, 15, 16, 17, 18, 19, 20, 21, 22, 23, 24, 25, 26], .code (cd36 [1, 0, 1, 0, 1, 0, 1]), .inBlock 0, .code (cd36 [1, 1])]) (us := []) (d := 13) (t := (a0.B == 0)) (by kernel_rfl) (fun h11 => ?_) (fun h12 => ?_)
    ·skip
     have hp13 := ite_t hp10 h11
     refine sx_run 4 (todo' := [.inRegion (opsOf (cd36 [1, 0, 1, 0, 1, 0, 0])) [11, 12, 13, 14, 15, 16, 17, 18, 19, 20, 21, 22, 23, 24, 25, 26], .code (cd36 [1, 0, 1, 0, 1, 0, 1]), .inBlock 0, .code (cd36 [1, 1])]) (us := [(14, .bool true), (15, .bool true), (16, .pointer (some ⟨b1, 3, none⟩)), (17, .pointer (some ⟨b1, 3, none⟩))]) (by kernel_rfl) ?_
     refine r_load (c := (cd36 [1, 0, 1, 0, 1, 0, 0])) (i := 11) (d := (some 18)) (ty := 3) (t := 3) (x := (.tmp 17)) (p := ⟨b1, 3, none⟩) (v := .int .i64 a0.Ref.Thread) (by kernel_rfl) (by kernel_rfl) (by kernel_rfl) (loads_at 0 (sub_api_Node_Ref (hS3.blk 0 rfl)) (by kernel_rfl) (by kernel_rfl)) ?_
     refine sx_split 1 (todo' := [.inRegion (opsOf (cd36 [1, 0, 1, 0, 1, 0, 0])) [13, 14, 15, 16, 17, 18, 19, 20, 21, 22, 23, 24, 25, 26], .code (cd36 [1, 0, 1, 0, 1, 0, 1]), .inBlock 0, .code (cd36 [1, 1])]) (us := []) (d := 19) (t := (decide (a0.Ref.Thread ≥ (-1)))) (by kernel_rfl) (fun h14 => ?_) (fun h15 => ?_)
     ·skip
      have hp16 := ite_t hp13 h14
      refine sx_run 4 (todo' := [.inRegion (opsOf (cd36 [1, 0, 1, 0, 1, 0, 0])) [17, 18, 19, 20, 21, 22, 23, 24, 25, 26], .code (cd36 [1, 0, 1, 0, 1, 0, 1]), .inBlock 0, .code (cd36 [1, 1])]) (us := [(20, .bool true), (21, .bool true), (22, .pointer (some ⟨b1, 3, none⟩)), (23, .pointer (some ⟨b1, 3, none⟩))]) (by kernel_rfl) ?_
      refine r_load (c := (cd36 [1, 0, 1, 0, 1, 0, 0])) (i := 17) (d := (some 24)) (ty := 3) (t := 3) (x := (.tmp 23)) (p := ⟨b1, 3, none⟩) (v := .int .i64 a0.Ref.Thread) (by kernel_rfl) (by kernel_rfl) (by kernel_rfl) (loads_at 0 (sub_api_Node_Ref (hS3.blk 0 rfl)) (by kernel_rfl) (by kernel_rfl)) ?_
      refine sx_split 1 (todo' := [.inRegion (opsOf (cd36 [1, 0, 1, 0, 1, 0, 0])) [19, 20, 21, 22, 23, 24, 25, 26], .code (cd36 [1, 0, 1, 0, 1, 0, 1]), .inBlock 0, .code (cd36 [1, 1])]) (us := []) (d := 25) (t := (decide (a0.Ref.Thread ≤ 9999))) (by kernel_rfl) (fun h17 => ?_) (fun h18 => ?_)
      ·skip
       have hp19 := ite_t hp16 h17
       refine sx_run 4 (todo' := [.inRegion (opsOf (cd36 [1, 0, 1, 0, 1, 0, 0])) [23, 24, 25, 26], .code (cd36 [1, 0, 1, 0, 1, 0, 1]), .inBlock 0, .code (cd36 [1, 1])]) (us := [(26, .bool true), (27, .bool true), (28, .pointer (some ⟨b1, 3, none⟩)), (29, .pointer (some ⟨b1, 4, none⟩))]) (by kernel_rfl) ?_
       refine r_load (c := (cd36 [1, 0, 1, 0, 1, 0, 0])) (i := 23) (d := (some 30)) (ty := 9) (t := 9) (x := (.tmp 29)) (p := ⟨b1, 4, none⟩) (v := .string a0.Ref.Name) (by kernel_rfl) (by kernel_rfl) (by kernel_rfl) (loads_at 1 (sub_api_Node_Ref (hS3.blk 0 rfl)) (by kernel_rfl) (by kernel_rfl)) ?_
       obtain ⟨t20, hr21, hp22⟩ := bind_some' hp19
       refine r_call1 (c := (cd36 [1, 0, 1, 0, 1, 0, 0])) (i := 24) (d := (some 31)) (g := 52) (args := #[.string a0.Ref.Name]) (by kernel_rfl) (by kernel_rfl) (by kernel_rfl) (by kernel_rfl) (lexis_Name.ok a0.Ref.Name hS3 hr21) ?_
       rintro _ w23 ⟨rfl, hS24⟩
       refine ⟨.bool t20, rfl, ?_⟩
       refine sx_run 3 (todo' := [.code (cd36 [1, 0, 1, 0, 1, 0, 1]), .inBlock 0, .code (cd36 [1, 1])]) (us := [(32, .bool t20), (2, .bool t20)]) (by kernel_rfl) ?_
       have hS25 := hS24.drop
       refine runs_ret (fn := Try.f36) (v := .bool t20) Try.func36 (by kernel_rfl) ?_
       have hr26 := (Option.some.inj hp22)
       cases hr26
       exact hR _ _ ⟨rfl, hS25⟩
      ·skip
       have hp27 := ite_f hp16 h18
       refine sx_run 9 (todo' := [.code (cd36 [1, 0, 1, 0, 1, 0, 1]), .inBlock 0, .code (cd36 [1, 1])]) (us := [(26, .bool false), (27, .bool false), (28, undef), (29, undef), (30, undef), (31, undef), (32, .bool false), (2, .bool false)]) (by kernel_rfl) ?_
       have hS28 := hS3.drop
       refine runs_ret (fn := Try.f36) (v := .bool false) Try.func36 (by kernel_rfl) ?_
       have hr29 := (Option.some.inj hp27)
       cases hr29
       exact hR _ _ ⟨rfl, hS28⟩
     ·skip
      have hp30 := ite_f hp13 h15
      refine sx_run 15 (todo' := [.code (cd36 [1, 0, 1, 0, 1, 0, 1]), .inBlock 0, .code (cd36 [1, 1])]) (us := [(20, .bool false), (21, .bool false), (22, undef), (23, undef), (24, undef), (25, undef), (26, .bool false), (27, .bool false), (28, undef), (29, undef), (30, undef), (31, undef), (32, .bool false), (2, .bool false)]) (by kernel_rfl) ?_
      have hS31 := hS3.drop
      refine runs_ret (fn := Try.f36) (v := .bool false) Try.func36 (by kernel_rfl) ?_
      have hr32 := (Option.some.inj hp30)
      cases hr32
      exact hR _ _ ⟨rfl, hS31⟩
    ·skip
     have hp33 := ite_f hp10 h12
     refine sx_run 21 (todo' := [.code (cd36 [1, 0, 1, 0, 1, 0, 1]), .inBlock 0, .code (cd36 [1, 1])]) (us := [(14, .bool false), (15, .bool false), (16, undef), (17, undef), (18, undef), (19, undef), (20, .bool false), (21, .bool false), (22, undef), (23, undef), (24, undef), (25, undef), (26, .bool false), (27, .bool false), (28, undef), (29, undef), (30, undef), (31, undef), (32, .bool false), (2, .bool false)]) (by kernel_rfl) ?_
     have hS34 := hS3.drop
     refine runs_ret (fn := Try.f36) (v := .bool false) Try.func36 (by kernel_rfl) ?_
     have hr35 := (Option.some.inj hp33)
     cases hr35
     exact hR _ _ ⟨rfl, hS34⟩
   ·skip
    have hp36 := ite_f hp7 h9
    refine sx_run 25 (todo' := [.code (cd36 [1, 0, 1, 0, 1, 0, 1]), .inBlock 0, .code (cd36 [1, 1])]) (us := [(10, .bool false), (11, undef), (12, undef), (13, undef), (14, .bool false), (15, .bool false), (16, undef), (17, undef), (18, undef), (19, undef), (20, .bool false), (21, .bool false), (22, undef), (23, undef), (24, undef), (25, undef), (26, .bool false), (27, .bool false), (28, undef), (29, undef), (30, undef), (31, undef), (32, .bool false), (2, .bool false)]) (by kernel_rfl) ?_
    have hS37 := hS3.drop
    refine runs_ret (fn := Try.f36) (v := .bool false) Try.func36 (by kernel_rfl) ?_
    have hr38 := (Option.some.inj hp36)
    cases hr38
    exact hR _ _ ⟨rfl, hS37⟩
  ·skip
   have hp39 := ite_f hp0 h6
   refine sx_split 6 (todo' := [.inRegion (opsOf (cd36 [1, 0, 1, 0, 1, 1, 0])) [1], .code (cd36 [1, 0, 1, 0, 1, 1, 1]), .inBlock 0, .code (cd36 [1, 1])]) (us := [(5, .bool false)]) (d := 34) (t := (a0.Op == 1)) (by kernel_rfl) (fun h40 => ?_) (fun h41 => ?_)
   ·skip
    have hp42 := ite_t hp39 h40
    refine sx_run 5 (todo' := [.inRegion (opsOf (cd36 [1, 0, 1, 0, 1, 1, 1, 0, 0])) [0, 1, 2, 3], .code (cd36 [1, 0, 1, 0, 1, 1, 1, 0, 1]), .inBlock 0, .code (cd36 [1, 1])]) (us := [(33, .bool true)]) (by kernel_rfl) ?_
    refine r_load (c := (cd36 [1, 0, 1, 0, 1, 1, 1, 0, 0])) (i := 0) (d := (some 35)) (ty := 52) (t := 52) (x := (.tmp 1)) (p := ⟨b1, 0, none⟩) (v := .agg (enc_api_Node a0).toArray) (by kernel_rfl) (by kernel_rfl) (by kernel_rfl) (loads_agg (hS3.blk 0 rfl) (by kernel_rfl) (by kernel_rfl)) ?_
    refine sx_run 1 (todo' := [.inRegion (opsOf (cd36 [1, 0, 1, 0, 1, 1, 1, 0, 0])) [2, 3], .code (cd36 [1, 0, 1, 0, 1, 1, 1, 0, 1]), .inBlock 0, .code (cd36 [1, 1])]) (us := [(36, .agg (enc_api_Node (⟨1, 0, 0, (⟨0, (⟨#[]⟩ : ByteArray)⟩ : api_Ref), 0⟩ : api_Node)).toArray)]) (by kernel_rfl) ?_
    refine r_val (c := (cd36 [1, 0, 1, 0, 1, 1, 1, 0, 0])) (i := 2) (d := (some 37)) (ty := 4) (op := .binOp .eql 52 (.tmp 35) (.tmp 36) 52) (v := .bool (decide (a0 = (⟨1, 0, 0, (⟨0, (⟨#[]⟩ : ByteArray)⟩ : api_Ref), 0⟩ : api_Node)))) (by kernel_rfl) (by kernel_rfl) (fun o ho _ => x_eql_api_Node (by kernel_rfl) (by kernel_rfl) ho) ?_
    refine r_split (decide (a0 = (⟨1, 0, 0, (⟨0, (⟨#[]⟩ : ByteArray)⟩ : api_Ref), 0⟩ : api_Node))) (fun h43 => ?_) (fun h44 => ?_)
    ·skip
     have hp45 := ite_t hp42 h43
     refine sx_run 2 (todo' := [.code (cd36 [1, 0, 1, 0, 1, 1, 1, 0, 1]), .inBlock 0, .code (cd36 [1, 1])]) (us := [(2, .bool true)]) (by kernel_rfl) ?_
     have hS46 := hS3.drop
     refine runs_ret (fn := Try.f36) (v := .bool true) Try.func36 (by kernel_rfl) ?_
     have hr47 := (Option.some.inj hp45)
     cases hr47
     exact hR _ _ ⟨rfl, hS46⟩
    ·skip
     have hp48 := ite_f hp42 h44
     refine sx_run 2 (todo' := [.code (cd36 [1, 0, 1, 0, 1, 1, 1, 0, 1]), .inBlock 0, .code (cd36 [1, 1])]) (us := [(2, .bool false)]) (by kernel_rfl) ?_
     have hS49 := hS3.drop
     refine runs_ret (fn := Try.f36) (v := .bool false) Try.func36 (by kernel_rfl) ?_
     have hr50 := (Option.some.inj hp48)
     cases hr50
     exact hR _ _ ⟨rfl, hS49⟩
   ·skip
    have hp51 := ite_f hp39 h41
    refine sx_split 6 (todo' := [.inRegion (opsOf (cd36 [1, 0, 1, 0, 1, 1, 1, 1, 0])) [1], .code (cd36 [1, 0, 1, 0, 1, 1, 1, 1, 1]), .inBlock 0, .code (cd36 [1, 1])]) (us := [(33, .bool false)]) (d := 39) (t := (a0.Op == 3)) (by kernel_rfl) (fun h52 => ?_) (fun h53 => ?_)
    ·skip
     have hp54 := ite_t hp51 h52
     refine sx_run 6 (todo' := [.inRegion (opsOf (cd36 [1, 0, 1, 0, 1, 1, 1, 1, 1, 0, 0])) [1, 2, 3, 4, 5, 6, 7, 8, 9, 10, 11, 12, 13, 14], .code (cd36 [1, 0, 1, 0, 1, 1, 1, 1, 1, 0, 1]), .inBlock 0, .code (cd36 [1, 1])]) (us := [(38, .bool true), (40, .pointer (some ⟨b1, 2, none⟩))]) (by kernel_rfl) ?_
     refine r_load (c := (cd36 [1, 0, 1, 0, 1, 1, 1, 1, 1, 0, 0])) (i := 1) (d := (some 41)) (ty := 3) (t := 3) (x := (.tmp 40)) (p := ⟨b1, 2, none⟩) (v := .int .i64 a0.B) (by kernel_rfl) (by kernel_rfl) (by kernel_rfl) (loads_at 2 (hS3.blk 0 rfl) (by kernel_rfl) (by kernel_rfl)) ?_
     refine sx_split 1 (todo' := [.inRegion (opsOf (cd36 [1, 0, 1, 0, 1, 1, 1, 1, 1, 0, 0])) [3, 4, 5, 6, 7, 8, 9, 10, 11, 12, 13, 14], .code (cd36 [1, 0, 1, 0, 1, 1, 1, 1, 1, 0, 1]), .inBlock 0, .code (cd36 [1, 1])]) (us := []) (d := 42) (t := (a0.B == 0)) (by kernel_rfl) (fun h55 => ?_) (fun h56 => ?_)
     ·skip
      have hp57 := ite_t hp54 h55
      refine sx_run 2 (todo' := [.inRegion (opsOf (cd36 [1, 0, 1, 0, 1, 1, 1, 1, 1, 0, 0])) [5, 6, 7, 8, 9, 10, 11, 12, 13, 14], .code (cd36 [1, 0, 1, 0, 1, 1, 1, 1, 1, 0, 1]), .inBlock 0, .code (cd36 [1, 1])]) (us := [(43, .bool true), (44, .pointer (some ⟨b1, 3, none⟩))]) (by kernel_rfl) ?_
      refine r_load (c := (cd36 [1, 0, 1, 0, 1, 1, 1, 1, 1, 0, 0])) (i := 5) (d := (some 45)) (ty := 46) (t := 46) (x := (.tmp 44)) (p := ⟨b1, 3, none⟩) (v := .agg (enc_api_Ref a0.Ref).toArray) (by kernel_rfl) (by kernel_rfl) (by kernel_rfl) (loads_agg (sub_api_Node_Ref (hS3.blk 0 rfl)) (by kernel_rfl) (by kernel_rfl)) ?_
      refine sx_run 1 (todo' := [.inRegion (opsOf (cd36 [1, 0, 1, 0, 1, 1, 1, 1, 1, 0, 0])) [7, 8, 9, 10, 11, 12, 13, 14], .code (cd36 [1, 0, 1, 0, 1, 1, 1, 1, 1, 0, 1]), .inBlock 0, .code (cd36 [1, 1])]) (us := [(46, .agg (enc_api_Ref (⟨0, (⟨#[]⟩ : ByteArray)⟩ : api_Ref)).toArray)]) (by kernel_rfl) ?_
      refine r_val (c := (cd36 [1, 0, 1, 0, 1, 1, 1, 1, 1, 0, 0])) (i := 7) (d := (some 47)) (ty := 4) (op := .binOp .eql 46 (.tmp 45) (.tmp 46) 46) (v := .bool (decide (a0.Ref = (⟨0, (⟨#[]⟩ : ByteArray)⟩ : api_Ref)))) (by kernel_rfl) (by kernel_rfl) (fun o ho _ => x_eql_api_Ref (by kernel_rfl) (by kernel_rfl) ho) ?_
      refine r_split (decide (a0.Ref = (⟨0, (⟨#[]⟩ : ByteArray)⟩ : api_Ref))) (fun h58 => ?_) (fun h59 => ?_)
      ·skip
       have hp60 := ite_t hp57 h58
       refine sx_run 3 (todo' := [.inRegion (opsOf (cd36 [1, 0, 1, 0, 1, 1, 1, 1, 1, 0, 0])) [11, 12, 13, 14], .code (cd36 [1, 0, 1, 0, 1, 1, 1, 1, 1, 0, 1]), .inBlock 0, .code (cd36 [1, 1])]) (us := [(48, .bool true), (49, .bool true), (50, .pointer (some ⟨b1, 5, none⟩))]) (by kernel_rfl) ?_
       refine r_load (c := (cd36 [1, 0, 1, 0, 1, 1, 1, 1, 1, 0, 0])) (i := 11) (d := (some 51)) (ty := 2) (t := 2) (x := (.tmp 50)) (p := ⟨b1, 5, none⟩) (v := .int .i64 a0.Value) (by kernel_rfl) (by kernel_rfl) (by kernel_rfl) (loads_at 5 (hS3.blk 0 rfl) (by kernel_rfl) (by kernel_rfl)) ?_
       refine sx_split 1 (todo' := [.inRegion (opsOf (cd36 [1, 0, 1, 0, 1, 1, 1, 1, 1, 0, 0])) [13, 14], .code (cd36 [1, 0, 1, 0, 1, 1, 1, 1, 1, 0, 1]), .inBlock 0, .code (cd36 [1, 1])]) (us := []) (d := 52) (t := (a0.Value == 0)) (by kernel_rfl) (fun h61 => ?_) (fun h62 => ?_)
       ·skip
        have hp63 := ite_t hp60 h61
        refine sx_run 3 (todo' := [.code (cd36 [1, 0, 1, 0, 1, 1, 1, 1, 1, 0, 1]), .inBlock 0, .code (cd36 [1, 1])]) (us := [(53, .bool true), (2, .bool true)]) (by kernel_rfl) ?_
        have hS64 := hS3.drop
        refine runs_ret (fn := Try.f36) (v := .bool true) Try.func36 (by kernel_rfl) ?_
        have hr65 := (Option.some.inj hp63)
        cases hr65
        exact hR _ _ ⟨rfl, hS64⟩
       ·skip
        have hp66 := ite_f hp60 h62
        refine sx_run 3 (todo' := [.code (cd36 [1, 0, 1, 0, 1, 1, 1, 1, 1, 0, 1]), .inBlock 0, .code (cd36 [1, 1])]) (us := [(53, .bool false), (2, .bool false)]) (by kernel_rfl) ?_
        have hS67 := hS3.drop
        refine runs_ret (fn := Try.f36) (v := .bool false) Try.func36 (by kernel_rfl) ?_
        have hr68 := (Option.some.inj hp66)
        cases hr68
        exact hR _ _ ⟨rfl, hS67⟩
      ·skip
       have hp69 := ite_f hp57 h59
       refine sx_run 8 (todo' := [.code (cd36 [1, 0, 1, 0, 1, 1, 1, 1, 1, 0, 1]), .inBlock 0, .code (cd36 [1, 1])]) (us := [(48, .bool false), (49, .bool false), (50, undef), (51, undef), (52, undef), (53, .bool false), (2, .bool false)]) (by kernel_rfl) ?_
       have hS70 := hS3.drop
       refine runs_ret (fn := Try.f36) (v := .bool false) Try.func36 (by kernel_rfl) ?_
       have hr71 := (Option.some.inj hp69)
       cases hr71
       exact hR _ _ ⟨rfl, hS70⟩
     ·skip
      have hp72 := ite_f hp54 h56
      refine sx_run 13 (todo' := [.code (cd36 [1, 0, 1, 0, 1, 1, 1, 1, 1, 0, 1]), .inBlock 0, .code (cd36 [1, 1])]) (us := [(43, .bool false), (44, undef), (45, undef), (46, undef), (47, undef), (48, .bool false), (49, .bool false), (50, undef), (51, undef), (52, undef), (53, .bool false), (2, .bool false)]) (by kernel_rfl) ?_
      have hS73 := hS3.drop
      refine runs_ret (fn := Try.f36) (v := .bool false) Try.func36 (by kernel_rfl) ?_
      have hr74 := (Option.some.inj hp72)
      cases hr74
      exact hR _ _ ⟨rfl, hS73⟩
    ·skip
     have hp75 := ite_f hp51 h53
     obtain ⟨v76, hv77, hp78⟩ := bind_some' hp75
     have J82 : ∀ (t79 : Bool) (he84 : t79 = v76) (l83 : List Value) (w80 : World) (hS81 : St w0 Z (xblk b1 52 (enc_api_Node a0) :: fs) w80), Runs Try.prog 36 [.code (cd36 [1, 0, 1, 0, 1, 1, 1, 1, 1, 1, 1]), .inBlock 0, .code (cd36 [1, 1])] (fill [none, some (.pointer (some ⟨b1, 0, none⟩)), none, none, none, none, none, none, none, none, none, none, none, none, none, none, none, none, none, none, none, none, none, none, none, none, none, none, none, none, none, none, none, none, none, none, none, none, none, none, none, none, none, none, none, none, none, none, none, none, none, none, none, none, some (.bool t79), none, none, none, none, none, none, none, none, none, none, none] l83) w80 R := by
      intro t79 he84 l83 w80 hS81
      subst he84
      try dsimp only at hp78
      cases t79
      ·skip
       have hp85 := ite_f hp78 rfl
       refine sx_run 7 (todo' := [.code (cd36 [1, 1, 1])]) (us := [(2, .bool false)]) (by kernel_rfl) ?_
       have hS86 := hS81.drop
       refine runs_ret (fn := Try.f36) (v := .bool false) Try.func36 (by kernel_rfl) ?_
       have hr87 := (Option.some.inj hp85)
       cases hr87
       exact hR _ _ ⟨rfl, hS86⟩
      ·skip
       have hp88 := ite_t hp78 rfl
       refine sx_run 4 (todo' := [.inRegion (opsOf (cd36 [1, 0, 1, 0, 1, 1, 1, 1, 1, 1, 1, 0, 0])) [1, 2, 3, 4, 5, 6, 7, 8, 9], .code (cd36 [1, 0, 1, 0, 1, 1, 1, 1, 1, 1, 1, 0, 1]), .inBlock 0, .code (cd36 [1, 1])]) (us := [(57, .pointer (some ⟨b1, 3, none⟩))]) (by kernel_rfl) ?_
       refine r_load (c := (cd36 [1, 0, 1, 0, 1, 1, 1, 1, 1, 1, 1, 0, 0])) (i := 1) (d := (some 58)) (ty := 46) (t := 46) (x := (.tmp 57)) (p := ⟨b1, 3, none⟩) (v := .agg (enc_api_Ref a0.Ref).toArray) (by kernel_rfl) (by kernel_rfl) (by kernel_rfl) (loads_agg (sub_api_Node_Ref (hS81.blk 0 rfl)) (by kernel_rfl) (by kernel_rfl)) ?_
       refine sx_run 1 (todo' := [.inRegion (opsOf (cd36 [1, 0, 1, 0, 1, 1, 1, 1, 1, 1, 1, 0, 0])) [3, 4, 5, 6, 7, 8, 9], .code (cd36 [1, 0, 1, 0, 1, 1, 1, 1, 1, 1, 1, 0, 1]), .inBlock 0, .code (cd36 [1, 1])]) (us := [(59, .agg (enc_api_Ref (⟨0, (⟨#[]⟩ : ByteArray)⟩ : api_Ref)).toArray)]) (by kernel_rfl) ?_
       refine r_val (c := (cd36 [1, 0, 1, 0, 1, 1, 1, 1, 1, 1, 1, 0, 0])) (i := 3) (d := (some 60)) (ty := 4) (op := .binOp .eql 46 (.tmp 58) (.tmp 59) 46) (v := .bool (decide (a0.Ref = (⟨0, (⟨#[]⟩ : ByteArray)⟩ : api_Ref)))) (by kernel_rfl) (by kernel_rfl) (fun o ho _ => x_eql_api_Ref (by kernel_rfl) (by kernel_rfl) ho) ?_
       refine r_split (decide (a0.Ref = (⟨0, (⟨#[]⟩ : ByteArray)⟩ : api_Ref))) (fun h89 => ?_) (fun h90 => ?_)
       ·skip
        have hp91 := ite_t hp88 h89
        refine sx_run 2 (todo' := [.inRegion (opsOf (cd36 [1, 0, 1, 0, 1, 1, 1, 1, 1, 1, 1, 0, 0])) [6, 7, 8, 9], .code (cd36 [1, 0, 1, 0, 1, 1, 1, 1, 1, 1, 1, 0, 1]), .inBlock 0, .code (cd36 [1, 1])]) (us := [(61, .bool true), (62, .pointer (some ⟨b1, 5, none⟩))]) (by kernel_rfl) ?_
        refine r_load (c := (cd36 [1, 0, 1, 0, 1, 1, 1, 1, 1, 1, 1, 0, 0])) (i := 6) (d := (some 63)) (ty := 2) (t := 2) (x := (.tmp 62)) (p := ⟨b1, 5, none⟩) (v := .int .i64 a0.Value) (by kernel_rfl) (by kernel_rfl) (by kernel_rfl) (loads_at 5 (hS81.blk 0 rfl) (by kernel_rfl) (by kernel_rfl)) ?_
        refine sx_split 1 (todo' := [.inRegion (opsOf (cd36 [1, 0, 1, 0, 1, 1, 1, 1, 1, 1, 1, 0, 0])) [8, 9], .code (cd36 [1, 0, 1, 0, 1, 1, 1, 1, 1, 1, 1, 0, 1]), .inBlock 0, .code (cd36 [1, 1])]) (us := []) (d := 64) (t := (a0.Value == 0)) (by kernel_rfl) (fun h92 => ?_) (fun h93 => ?_)
        ·skip
         have hp94 := ite_t hp91 h92
         refine sx_run 3 (todo' := [.code (cd36 [1, 0, 1, 0, 1, 1, 1, 1, 1, 1, 1, 0, 1]), .inBlock 0, .code (cd36 [1, 1])]) (us := [(65, .bool true), (2, .bool true)]) (by kernel_rfl) ?_
         have hS95 := hS81.drop
         refine runs_ret (fn := Try.f36) (v := .bool true) Try.func36 (by kernel_rfl) ?_
         have hr96 := (Option.some.inj hp94)
         cases hr96
         exact hR _ _ ⟨rfl, hS95⟩
        ·skip
         have hp97 := ite_f hp91 h93
         refine sx_run 3 (todo' := [.code (cd36 [1, 0, 1, 0, 1, 1, 1, 1, 1, 1, 1, 0, 1]), .inBlock 0, .code (cd36 [1, 1])]) (us := [(65, .bool false), (2, .bool false)]) (by kernel_rfl) ?_
         have hS98 := hS81.drop
         refine runs_ret (fn := Try.f36) (v := .bool false) Try.func36 (by kernel_rfl) ?_
         have hr99 := (Option.some.inj hp97)
         cases hr99
         exact hR _ _ ⟨rfl, hS98⟩
       ·skip
        have hp100 := ite_f hp88 h90
        refine sx_run 7 (todo' := [.code (cd36 [1, 0, 1, 0, 1, 1, 1, 1, 1, 1, 1, 0, 1]), .inBlock 0, .code (cd36 [1, 1])]) (us := [(61, .bool false), (62, undef), (63, undef), (64, undef), (65, .bool false), (2, .bool false)]) (by kernel_rfl) ?_
        have hS101 := hS81.drop
        refine runs_ret (fn := Try.f36) (v := .bool false) Try.func36 (by kernel_rfl) ?_
        have hr102 := (Option.some.inj hp100)
        cases hr102
        exact hR _ _ ⟨rfl, hS101⟩
     refine sx_split 7 (todo' := [.inRegion (opsOf (cd36 [1, 0, 1, 0, 1, 1, 1, 1, 1, 1, 0, 0])) [1], .code (cd36 [1, 0, 1, 0, 1, 1, 1, 1, 1, 1, 0, 1]), .code (cd36 [1, 0, 1, 0, 1, 1, 1, 1, 1, 1, 1]), .inBlock 0, .code (cd36 [1, 1])]) (us := [(38, .bool false)]) (d := 55) (t := (a0.Op == 4)) (by kernel_rfl) (fun h103 => ?_) (fun h104 => ?_)
     ·skip
      have hp105 := ite_t hv77 h103
      refine sx_run 4 (todo' := [.code (cd36 [1, 0, 1, 0, 1, 1, 1, 1, 1, 1, 1]), .inBlock 0, .code (cd36 [1, 1])]) (us := [(54, .bool true)]) (by kernel_rfl) ?_
      refine Runs.fill (m := [none, some (.pointer (some ⟨b1, 0, none⟩)), none, none, none, none, none, none, none, none, none, none, none, none, none, none, none, none, none, none, none, none, none, none, none, none, none, none, none, none, none, none, none, none, none, none, none, none, none, none, none, none, none, none, none, none, none, none, none, none, none, none, none, none, some (.bool true), none, none, none, none, none, none, none, none, none, none, none]) (by kernel_rfl) ?_
      exact J82 true (Option.some.inj hp105) _ _ hS3
     ·skip
      have hp106 := ite_f hv77 h104
      refine sx_split 5 (todo' := [.inRegion (opsOf (cd36 [1, 0, 1, 0, 1, 1, 1, 1, 1, 1, 0, 1, 1])) [1], .code (cd36 [1, 0, 1, 0, 1, 1, 1, 1, 1, 1, 1]), .inBlock 0, .code (cd36 [1, 1])]) (us := [(54, .bool false)]) (d := 56) (t := (a0.Op == 5)) (by kernel_rfl) (fun h107 => ?_) (fun h108 => ?_)
      ·skip
       have hp109 := ite_t hp106 h107
       refine sx_run 2 (todo' := [.code (cd36 [1, 0, 1, 0, 1, 1, 1, 1, 1, 1, 1]), .inBlock 0, .code (cd36 [1, 1])]) (us := [(54, .bool true)]) (by kernel_rfl) ?_
       refine Runs.fill (m := [none, some (.pointer (some ⟨b1, 0, none⟩)), none, none, none, none, none, none, none, none, none, none, none, none, none, none, none, none, none, none, none, none, none, none, none, none, none, none, none, none, none, none, none, none, none, none, none, none, none, none, none, none, none, none, none, none, none, none, none, none, none, none, none, none, some (.bool true), none, none, none, none, none, none, none, none, none, none, none]) (by kernel_rfl) ?_
       exact J82 true (Option.some.inj hp109) _ _ hS3
      ·skip
       have hp110 := ite_f hp106 h108
       refine sx_run 2 (todo' := [.code (cd36 [1, 0, 1, 0, 1, 1, 1, 1, 1, 1, 1]), .inBlock 0, .code (cd36 [1, 1])]) (us := [(54, .bool false)]) (by kernel_rfl) ?_
       refine Runs.fill (m := [none, some (.pointer (some ⟨b1, 0, none⟩)), none, none, none, none, none, none, none, none, none, none, none, none, none, none, none, none, none, none, none, none, none, none, none, none, none, none, none, none, none, none, none, none, none, none, none, none, none, none, none, none, none, none, none, none, none, none, none, none, none, none, none, none, some (.bool false), none, none, none, none, none, none, none, none, none, none, none]) (by kernel_rfl) ?_
       exact J82 false (Option.some.inj hp110) _ _ hS3

noncomputable def cd28 (p : List Nat) : Code := sub (bodyOf Try.f28) p
def cond_makes.l0 (a0 : List api_Node) (t41 : Int) (t42 : List Int) : Option (Sum (List Int) Bool) :=
  (if (decide (t41 < (a0.length : Int))) = true then (if 0 ≤ t41 ∧ t41 < (a0.length : Int) then (cond_fields.f (gt a0 t41) >>= (fun t68 => (if (!t68) = true then some (.inr (false)) else (if (((gt a0 t41).Op) == 3) = true then (if (t41 == 0) = true then some (.inr (false)) else (if (((gt a0 t41).A) != (IntKind.i64.wrap (t41 - 1))) = true then some (.inr (false)) else (if 0 ≤ ((gt a0 t41).A) ∧ ((gt a0 t41).A) < (t42.length : Int) then (if 0 ≤ t41 ∧ t41 < (t42.length : Int) then (cond_makes.l0 a0 (IntKind.i64.wrap (t41 + 1)) (setl t42 t41 (gt t42 ((gt a0 t41).A)))) else none) else none))) else (((if (((gt a0 t41).Op) == 4) = true then some (true) else (if (((gt a0 t41).Op) == 5) = true then some (true) else some (false))) : Option Bool) >>= (fun t118 => (if t118 = true then (if (t41 == 0) = true then some (.inr (false)) else (if (((gt a0 t41).B) != (IntKind.i64.wrap (t41 - 1))) = true then some (.inr (false)) else (if 0 ≤ ((gt a0 t41).B) ∧ ((gt a0 t41).B) < (t42.length : Int) then (if ((gt t42 ((gt a0 t41).B)) == 0) = true then some (.inr (false)) else (if 0 ≤ ((gt a0 t41).B) ∧ ((gt a0 t41).B) < (t42.length : Int) then (if (((gt a0 t41).A) != (IntKind.i64.wrap ((gt t42 ((gt a0 t41).B)) - 1))) = true then some (.inr (false)) else (if 0 ≤ ((gt a0 t41).A) ∧ ((gt a0 t41).A) < (t42.length : Int) then (if 0 ≤ t41 ∧ t41 < (t42.length : Int) then (cond_makes.l0 a0 (IntKind.i64.wrap (t41 + 1)) (setl t42 t41 (gt t42 ((gt a0 t41).A)))) else none) else none)) else none)) else none))) else (if 0 ≤ t41 ∧ t41 < (t42.length : Int) then (cond_makes.l0 a0 (IntKind.i64.wrap (t41 + 1)) (setl t42 t41 t41)) else none)))))))) else none) else some (.inl t42))
 partial_fixpoint
def cond_makes.f (a0 : List api_Node) : Option Bool :=
  (if (decide ((a0.length : Int) < 1)) = true then some (false) else (if (decide ((a0.length : Int) > 1024)) = true then some (false) else (if 0 ≤ (a0.length : Int) ∧ (a0.length : Int) * 8 ≤ 140737488355328 then (cond_makes.l0 a0 0 (List.replicate (a0.length : Int).toNat (0 : Int)) >>= (fun | .inl t20 => (if 0 ≤ (IntKind.i64.wrap ((a0.length : Int) - 1)) ∧ (IntKind.i64.wrap ((a0.length : Int) - 1)) < (t20.length : Int) then (if ((gt t20 (IntKind.i64.wrap ((a0.length : Int) - 1))) == 0) = true then some (true) else some (false)) else none) | .inr e => some e)) else none)))
set_option maxHeartbeats 16000000 in
theorem cond_makes.ok (a0 : List api_Node) (Aa0 : Option Addr) (ca0 : Nat) {w0 : World} {Z : Zm} {fs : List XObj} {w : World} (hS0 : St w0 Z (fs) w) (ha0 : SlZ (flat enc_api_Node) 6 Z Aa0 ca0 a0) {q0 : Bool} (hp0 : cond_makes.f a0 = some q0) :
    Calls Try.prog 28 #[.slice Aa0 a0.length ca0] w (fun e w' => e = .returned (.bool q0) ∧ St w0 Z (fs) w') := by
  refine calls_abs ?_; intro R hR
  unfold cond_makes.f at hp0
  refine calls_of_runs (fn := Try.f28) (c := cd28 []) Try.func28 (by kernel_rfl) (al := [.slice Aa0 a0.length ca0]) rfl (n := 98) rfl ?_
  refine sx_split 10 (todo' := [.inRegion (opsOf (cd28 [1, 0, 0])) [3, 4, 5, 6, 7], .code (cd28 [1, 0, 1]), .code (cd28 [1, 1])]) (us := [(2, .bool false), (6, .slice Aa0 a0.length ca0), (7, .int .i64 (a0.length : Int))]) (d := 8) (t := (decide ((a0.length : Int) < 1))) (by kernel_rfl) (fun h1 => ?_) (fun h2 => ?_)
  ·skip
   have hp3 := ite_t hp0 h1
   refine sx_run 11 (todo' := [.code (cd28 [1, 0, 1, 0, 1]), .code (cd28 [1, 1])]) (us := [(9, .bool true), (10, undef), (11, undef), (12, undef), (13, .bool true), (2, .bool false)]) (by kernel_rfl) ?_
   refine runs_ret (fn := Try.f28) (v := .bool false) Try.func28 (by kernel_rfl) ?_
   have hr4 := (Option.some.inj hp3)
   cases hr4
   exact hR _ _ ⟨rfl, hS0⟩
  ·skip
   have hp5 := ite_f hp0 h2
   refine sx_split 4 (todo' := [.inRegion (opsOf (cd28 [1, 0, 0])) [7], .code (cd28 [1, 0, 1]), .code (cd28 [1, 1])]) (us := [(9, .bool false), (10, .slice Aa0 a0.length ca0), (11, .int .i64 (a0.length : Int))]) (d := 12) (t := (decide ((a0.length : Int) > 1024))) (by kernel_rfl) (fun h6 => ?_) (fun h7 => ?_)
   ·skip
    have hp8 := ite_t hp5 h6
    refine sx_run 7 (todo' := [.code (cd28 [1, 0, 1, 0, 1]), .code (cd28 [1, 1])]) (us := [(13, .bool true), (2, .bool false)]) (by kernel_rfl) ?_
    refine runs_ret (fn := Try.f28) (v := .bool false) Try.func28 (by kernel_rfl) ?_
    have hr9 := (Option.some.inj hp8)
    cases hr9
    exact hR _ _ ⟨rfl, hS0⟩
   ·skip
    have hp10 := ite_f hp5 h7
    refine sx_run 8 (todo' := [.inRegion (opsOf (cd28 [1, 1, 0])) [2, 3], .code (cd28 [1, 1, 1])]) (us := [(13, .bool false), (14, .slice Aa0 a0.length ca0), (15, .int .i64 (a0.length : Int))]) (by kernel_rfl) ?_
    obtain ⟨g11, hp12⟩ := ite_some hp10
    refine r_make (c := (cd28 [1, 1, 0])) (i := 2) (d := (some 16)) (ty := 70) (enc := (encI .i64)) (t := 70) (e := 3) (sz := 1) (bytes := 8) (info := infoOf Try.prog 3) (x := (.tmp 15)) (y := (.tmp 15)) (n := (a0.length : Int)) (kk := .i64) (kc := .i64) (z := .int .i64 0) (x0 := 0) hS0 (by kernel_rfl) (by kernel_rfl) (by kernel_rfl) (by kernel_rfl) (by kernel_rfl) (by kernel_rfl) (by kernel_rfl) (by kernel_rfl) (by kernel_rfl) (by kernel_rfl) (len_encI .i64) (by omega) g11 (by omega) ?_
    intro A13 w14 hS15
    refine Runs.fill (m := [none, none, none, none, none, none, none, none, none, none, none, none, none, none, none, none, some (.slice A13 (a0.length : Int).toNat (a0.length : Int).toNat), none, none, none, none, none, none, none, none, none, none, none, none, none, none, none, none, none, none, none, none, none, none, none, none, none, none, none, none, none, none, none, none, none, none, none, none, none, none, none, none, none, none, none, none, none, none, none, none, none, none, none, none, none, none, none, none, none, none, none, none, none, none, none, none, none, none, none, none, none, none, none, none, none, none, none, none, none, none, none, none, none, none]) (by kernel_rfl) ?_
    refine Runs.refill (m' := [none, none, none, none, none, none, none, none, none, none, none, none, none, none, none, none, some (.slice A13 (List.replicate (a0.length : Int).toNat (0 : Int)).length ((a0.length : Int).toNat)), none, none, none, none, none, none, none, none, none, none, none, none, none, none, none, none, none, none, none, none, none, none, none, none, none, none, none, none, none, none, none, none, none, none, none, none, none, none, none, none, none, none, none, none, none, none, none, none, none, none, none, none, none, none, none, none, none, none, none, none, none, none, none, none, none, none, none, none, none, none, none, none, none, none, none, none, none, none, none, none, none, none]) (by simp only [List.length_replicate]) ?_
    refine sx_run 11 (todo' := [.code (cd28 [1, 1, 1, 0, 1, 0, 0]), .inLoop (cd28 [1, 1, 1, 0, 1, 0, 0]), .inBlock 0, .code (cd28 [1, 1, 1, 1])]) (us := [(3, .slice A13 (List.replicate (a0.length : Int).toNat (0 : Int)).length ((a0.length : Int).toNat)), (17, .slice Aa0 a0.length ca0), (18, .int .i64 (a0.length : Int)), (19, .int .i64 0)]) (by kernel_rfl) ?_
    obtain ⟨v17, hv18, hp19⟩ := bind_some' hp12
    have hq23 : ∀ x, Sum.inr x = v17 → x = q0 := by intro x hx; subst hx; simpa using hp19
    have J24 : ∀ (t20 : List Int) (he26 : Sum.inl t20 = v17) (l25 : List Value) (w21 : World) (hS22 : St w0 Z (xrow A13 ((a0.length : Int).toNat) 3 1 (t20.flatMap (encI .i64)) :: fs) w21), Runs Try.prog 28 [.code (cd28 [1, 1, 1, 1])] (fill [some (.slice Aa0 a0.length ca0), none, none, some (.slice A13 t20.length ((a0.length : Int).toNat)), none, none, none, none, none, none, none, none, none, none, none, none, none, none, none, none, none, none, none, none, none, none, none, none, none, none, none, none, none, none, none, none, none, none, none, none, none, none, none, none, none, none, none, none, none, none, none, none, none, none, none, none, none, none, none, none, none, none, none, none, none, none, none, none, none, none, none, none, none, none, none, none, none, none, none, none, none, none, none, none, none, none, none, none, none, none, none, none, none, none, none, none, none, none, none] l25) w21 R := by
     intro t20 he26 l25 w21 hS22
     subst he26
     try dsimp only at hp19
     refine sx_run 6 (todo' := [.inRegion (opsOf (cd28 [1, 1, 1, 1, 0])) [4, 5, 6, 7], .code (cd28 [1, 1, 1, 1, 1])]) (us := [(92, .slice A13 t20.length ((a0.length : Int).toNat)), (93, .slice Aa0 a0.length ca0), (94, .int .i64 (a0.length : Int)), (95, .int .i64 (IntKind.i64.wrap ((a0.length : Int) - 1)))]) (by kernel_rfl) ?_
     obtain ⟨g27, hp28⟩ := ite_some hp19
     obtain ⟨b29, p30, hA31, -⟩ := (hS22.row 0 rfl).at_ (len_encI .i64) (by omega) g27.1 g27.2
     refine r_indexAddr (c := (cd28 [1, 1, 1, 1, 0])) (i := 4) (d := (some 96)) (ty := 0) (t := 70) (e := 3) (n := t20.length) (cp := (a0.length : Int).toNat) (sz := 1) (kk := .i64) (x := (.tmp 92)) (y := (.tmp 95)) (b := b29) (o' := p30) (j := (IntKind.i64.wrap ((a0.length : Int) - 1))) (by kernel_rfl) (by kernel_rfl) (slv (by kernel_rfl) hA31) (by kernel_rfl) (by kernel_rfl) (by kernel_rfl) g27.1 g27.2 ?_
     refine r_load (c := (cd28 [1, 1, 1, 1, 0])) (i := 5) (d := (some 97)) (ty := 3) (t := 3) (x := (.tmp 96)) (p := ⟨b29, p30 + (IntKind.i64.wrap ((a0.length : Int) - 1)).toNat * 1, none⟩) (v := .int .i64 (gt t20 (IntKind.i64.wrap ((a0.length : Int) - 1)))) (by kernel_rfl) (by kernel_rfl) (by kernel_rfl) (loads_at 0 ((hS22.row 0 rfl).at2 hA31 (len_encI .i64) (by omega) g27.1 g27.2) (by kernel_rfl) (by kernel_rfl)) ?_
     refine sx_split 1 (todo' := [.inRegion (opsOf (cd28 [1, 1, 1, 1, 0])) [7], .code (cd28 [1, 1, 1, 1, 1])]) (us := []) (d := 98) (t := ((gt t20 (IntKind.i64.wrap ((a0.length : Int) - 1))) == 0)) (by kernel_rfl) (fun h33 => ?_) (fun h34 => ?_)
     ·skip
      have hp35 := ite_t hp28 h33
      refine sx_run 2 (todo' := [.code (cd28 [1, 1, 1, 1, 1])]) (us := [(2, .bool true)]) (by kernel_rfl) ?_
      have hS36 := hS22.drop
      refine runs_ret (fn := Try.f28) (v := .bool true) Try.func28 (by kernel_rfl) ?_
      have hr37 := (Option.some.inj hp35)
      cases hr37
      exact hR _ _ ⟨rfl, hS36⟩
     ·skip
      have hp38 := ite_f hp28 h34
      refine sx_run 2 (todo' := [.code (cd28 [1, 1, 1, 1, 1])]) (us := [(2, .bool false)]) (by kernel_rfl) ?_
      have hS39 := hS22.drop
      refine runs_ret (fn := Try.f28) (v := .bool false) Try.func28 (by kernel_rfl) ?_
      have hr40 := (Option.some.inj hp38)
      cases hr40
      exact hR _ _ ⟨rfl, hS39⟩
    have L51 : ∀ (t41 : Int) (t42 : List Int) (e46 : Sum (List Int) Bool), cond_makes.l0 a0 t41 t42 = some e46 → e46 = v17 → ∀ (l45 : List Value) (w43 : World) (hS44 : St w0 Z (xrow A13 ((a0.length : Int).toNat) 3 1 (t42.flatMap (encI .i64)) :: fs) w43), Runs Try.prog 28 [.code (cd28 [1, 1, 1, 0, 1, 0, 0]), .inLoop (cd28 [1, 1, 1, 0, 1, 0, 0]), .inBlock 0, .code (cd28 [1, 1, 1, 1])] (fill [some (.slice Aa0 a0.length ca0), none, none, some (.slice A13 t42.length ((a0.length : Int).toNat)), none, none, none, none, none, none, none, none, none, none, none, none, none, some (.slice Aa0 a0.length ca0), some (.int .i64 (a0.length : Int)), some (.int .i64 t41), none, none, none, none, none, none, none, none, none, none, none, none, none, none, none, none, none, none, none, none, none, none, none, none, none, none, none, none, none, none, none, none, none, none, none, none, none, none, none, none, none, none, none, none, none, none, none, none, none, none, none, none, none, none, none, none, none, none, none, none, none, none, none, none, none, none, none, none, none, none, none, none, none, none, none, none, none, none, none] l45) w43 R := by
     refine cond_makes.l0.partial_correctness a0 (fun t41 t42 e46 => e46 = v17 → ∀ (l45 : List Value) (w43 : World) (hS44 : St w0 Z (xrow A13 ((a0.length : Int).toNat) 3 1 (t42.flatMap (encI .i64)) :: fs) w43), Runs Try.prog 28 [.code (cd28 [1, 1, 1, 0, 1, 0, 0]), .inLoop (cd28 [1, 1, 1, 0, 1, 0, 0]), .inBlock 0, .code (cd28 [1, 1, 1, 1])] (fill [some (.slice Aa0 a0.length ca0), none, none, some (.slice A13 t42.length ((a0.length : Int).toNat)), none, none, none, none, none, none, none, none, none, none, none, none, none, some (.slice Aa0 a0.length ca0), some (.int .i64 (a0.length : Int)), some (.int .i64 t41), none, none, none, none, none, none, none, none, none, none, none, none, none, none, none, none, none, none, none, none, none, none, none, none, none, none, none, none, none, none, none, none, none, none, none, none, none, none, none, none, none, none, none, none, none, none, none, none, none, none, none, none, none, none, none, none, none, none, none, none, none, none, none, none, none, none, none, none, none, none, none, none, none, none, none, none, none, none, none] l45) w43 R) ?_
     intro rec50 ih49 t41 t42 e46 hb48 he47 l45 w43 hS44
     have hq52 : ∀ x, Sum.inr x = e46 → x = q0 := fun x hx => hq23 x (hx.trans he47)
     refine sx_split 3 (todo' := [.inRegion (opsOf (cd28 [1, 1, 1, 0, 1, 0, 0, 0])) [], .code (cd28 [1, 1, 1, 0, 1, 0, 0, 1]), .inLoop (cd28 [1, 1, 1, 0, 1, 0, 0]), .inBlock 0, .code (cd28 [1, 1, 1, 1])]) (us := []) (d := 20) (t := (decide (t41 < (a0.length : Int)))) (by kernel_rfl) (fun h53 => ?_) (fun h54 => ?_)
     ·skip
      have hp55 := ite_t hb48 h53
      refine sx_run 9 (todo' := [.inRegion (opsOf (cd28 [1, 1, 1, 0, 1, 0, 0, 1, 1, 0, 0, 0])) [1, 2, 3, 4, 5], .code (cd28 [1, 1, 1, 0, 1, 0, 0, 1, 1, 0, 0, 1]), .inBlock 1, .code (cd28 [1, 1, 1, 0, 1, 0, 0, 1, 1, 1]), .inLoop (cd28 [1, 1, 1, 0, 1, 0, 0]), .inBlock 0, .code (cd28 [1, 1, 1, 1])]) (us := [(21, .int .i64 t41)]) (by kernel_rfl) ?_
      obtain ⟨g56, hp57⟩ := ite_some hp55
      obtain ⟨b58, p59, hA60, hc61⟩ := ha0.atF g56.1 g56.2
      refine r_indexAddr (c := (cd28 [1, 1, 1, 0, 1, 0, 0, 1, 1, 0, 0, 0])) (i := 1) (d := (some 22)) (ty := 0) (t := 23) (e := 52) (n := a0.length) (cp := ca0) (sz := 6) (kk := .i64) (x := (.tmp 17)) (y := (.tmp 19)) (b := b58) (o' := p59) (j := t41) (by kernel_rfl) (by kernel_rfl) (slv (by kernel_rfl) hA60) (by kernel_rfl) (by kernel_rfl) (by kernel_rfl) g56.1 g56.2 ?_
      refine r_load (c := (cd28 [1, 1, 1, 0, 1, 0, 0, 1, 1, 0, 0, 0])) (i := 2) (d := (some 23)) (ty := 52) (t := 52) (x := (.tmp 22)) (p := ⟨b58, p59 + t41.toNat * 6, none⟩) (v := .agg (enc_api_Node (gt a0 t41)).toArray) (by kernel_rfl) (by kernel_rfl) (by kernel_rfl) (loads_agg (hc61.cells hS44) (by kernel_rfl) (by kernel_rfl)) ?_
      refine r_alloc (c := (cd28 [1, 1, 1, 0, 1, 0, 0, 1, 1, 0, 0, 0])) (i := 3) (d := (some 5)) (ty := 0) (z := .agg (enc_api_Node (⟨0, 0, 0, ⟨0, (⟨#[]⟩ : ByteArray)⟩, 0⟩ : api_Node)).toArray) (t := 52) (cs := enc_api_Node (⟨0, 0, 0, ⟨0, (⟨#[]⟩ : ByteArray)⟩, 0⟩ : api_Node)) hS44 (by kernel_rfl) (by kernel_rfl) (by kernel_rfl) (by kernel_rfl) ?_
      intro b62 w63 hS64
      refine sx_run 1 (todo' := [.inRegion (opsOf (cd28 [1, 1, 1, 0, 1, 0, 0, 1, 1, 0, 0, 0])) [5], .code (cd28 [1, 1, 1, 0, 1, 0, 0, 1, 1, 0, 0, 1]), .inBlock 1, .code (cd28 [1, 1, 1, 0, 1, 0, 0, 1, 1, 1]), .inLoop (cd28 [1, 1, 1, 0, 1, 0, 0]), .inBlock 0, .code (cd28 [1, 1, 1, 1])]) (us := [(4, .int .i64 t41)]) (by kernel_rfl) ?_
      refine r_store (c := (cd28 [1, 1, 1, 0, 1, 0, 0, 1, 1, 0, 0, 0])) (i := 5) (d := none) (ty := 0) (t := 52) (x := (.tmp 5)) (y := (.tmp 23)) (b := b62) (o := 0) (e := 52) (cs := enc_api_Node (⟨0, 0, 0, ⟨0, (⟨#[]⟩ : ByteArray)⟩, 0⟩ : api_Node)) (v := .agg (enc_api_Node (gt a0 t41)).toArray) (vs := enc_api_Node (gt a0 t41)) (cs' := enc_api_Node (gt a0 t41)) hS64 (by kernel_rfl) (by kernel_rfl) (by kernel_rfl) (by kernel_rfl) (by kernel_rfl) (by kernel_rfl) (one_api_Node _) (Nat.le_of_ble_eq_true (by kernel_rfl)) (by kernel_rfl) ?_
      intro w66 hS67
      refine sx_run 4 (todo' := [.inRegion (opsOf (cd28 [1, 1, 1, 0, 1, 0, 0, 1, 1, 0, 0, 1, 0, 0])) [0, 1, 2], .code (cd28 [1, 1, 1, 0, 1, 0, 0, 1, 1, 0, 0, 1, 0, 1]), .code (cd28 [1, 1, 1, 0, 1, 0, 0, 1, 1, 0, 0, 1, 1]), .inBlock 1, .code (cd28 [1, 1, 1, 0, 1, 0, 0, 1, 1, 1]), .inLoop (cd28 [1, 1, 1, 0, 1, 0, 0]), .inBlock 0, .code (cd28 [1, 1, 1, 1])]) (us := []) (by kernel_rfl) ?_
      refine r_load (c := (cd28 [1, 1, 1, 0, 1, 0, 0, 1, 1, 0, 0, 1, 0, 0])) (i := 0) (d := (some 24)) (ty := 52) (t := 52) (x := (.tmp 5)) (p := ⟨b62, 0, none⟩) (v := .agg (enc_api_Node (gt a0 t41)).toArray) (by kernel_rfl) (by kernel_rfl) (by kernel_rfl) (loads_agg (hS67.blk 0 rfl) (by kernel_rfl) (by kernel_rfl)) ?_
      obtain ⟨t68, hr69, hp70⟩ := bind_some' hp57
      refine r_call1 (c := (cd28 [1, 1, 1, 0, 1, 0, 0, 1, 1, 0, 0, 1, 0, 0])) (i := 1) (d := (some 25)) (g := 36) (args := #[.agg (enc_api_Node (gt a0 t41)).toArray]) (by kernel_rfl) (by kernel_rfl) (by kernel_rfl) (by kernel_rfl) (cond_fields.ok (gt a0 t41) hS67 hr69) ?_
      rintro _ w71 ⟨rfl, hS72⟩
      refine ⟨.bool t68, rfl, ?_⟩
      refine sx_split 1 (todo' := [.inRegion (opsOf (cd28 [1, 1, 1, 0, 1, 0, 0, 1, 1, 0, 0, 1, 0, 0])) [], .code (cd28 [1, 1, 1, 0, 1, 0, 0, 1, 1, 0, 0, 1, 0, 1]), .code (cd28 [1, 1, 1, 0, 1, 0, 0, 1, 1, 0, 0, 1, 1]), .inBlock 1, .code (cd28 [1, 1, 1, 0, 1, 0, 0, 1, 1, 1]), .inLoop (cd28 [1, 1, 1, 0, 1, 0, 0]), .inBlock 0, .code (cd28 [1, 1, 1, 1])]) (us := []) (d := 26) (t := (!t68)) (by kernel_rfl) (fun h73 => ?_) (fun h74 => ?_)
      ·skip
       have hp75 := ite_t hp70 h73
       refine sx_run 6 (todo' := [.code (cd28 [1, 1, 1, 0, 1, 0, 0, 1, 1, 0, 0, 1, 0, 1, 0, 1]), .code (cd28 [1, 1, 1, 0, 1, 0, 0, 1, 1, 0, 0, 1, 1]), .inBlock 1, .code (cd28 [1, 1, 1, 0, 1, 0, 0, 1, 1, 1]), .inLoop (cd28 [1, 1, 1, 0, 1, 0, 0]), .inBlock 0, .code (cd28 [1, 1, 1, 1])]) (us := [(2, .bool false)]) (by kernel_rfl) ?_
       have hS76 := hS72.drop
       have hS77 := hS76.drop
       refine runs_ret (fn := Try.f28) (v := .bool false) Try.func28 (by kernel_rfl) ?_
       have hr78 := (hq52 _ (Option.some.inj hp75))
       cases hr78
       exact hR _ _ ⟨rfl, hS77⟩
      ·skip
       have hp79 := ite_f hp70 h74
       refine sx_run 6 (todo' := [.inRegion (opsOf (cd28 [1, 1, 1, 0, 1, 0, 0, 1, 1, 0, 0, 1, 1, 0])) [1], .code (cd28 [1, 1, 1, 0, 1, 0, 0, 1, 1, 0, 0, 1, 1, 1]), .inBlock 1, .code (cd28 [1, 1, 1, 0, 1, 0, 0, 1, 1, 1]), .inLoop (cd28 [1, 1, 1, 0, 1, 0, 0]), .inBlock 0, .code (cd28 [1, 1, 1, 1])]) (us := [(27, .pointer (some ⟨b62, 0, none⟩))]) (by kernel_rfl) ?_
       refine r_load (c := (cd28 [1, 1, 1, 0, 1, 0, 0, 1, 1, 0, 0, 1, 1, 0])) (i := 1) (d := (some 28)) (ty := 3) (t := 3) (x := (.tmp 27)) (p := ⟨b62, 0, none⟩) (v := .int .i64 ((gt a0 t41).Op)) (by kernel_rfl) (by kernel_rfl) (by kernel_rfl) (loads_at 0 (hS72.blk 0 rfl) (by kernel_rfl) (by kernel_rfl)) ?_
       refine sx_split 5 (todo' := [.inRegion (opsOf (cd28 [1, 1, 1, 0, 1, 0, 0, 1, 1, 0, 0, 1, 1, 1, 0, 0])) [1], .code (cd28 [1, 1, 1, 0, 1, 0, 0, 1, 1, 0, 0, 1, 1, 1, 0, 1]), .inBlock 2, .inBlock 1, .code (cd28 [1, 1, 1, 0, 1, 0, 0, 1, 1, 1]), .inLoop (cd28 [1, 1, 1, 0, 1, 0, 0]), .inBlock 0, .code (cd28 [1, 1, 1, 1])]) (us := []) (d := 34) (t := (((gt a0 t41).Op) == 3)) (by kernel_rfl) (fun h80 => ?_) (fun h81 => ?_)
       ·skip
        have hp82 := ite_t hp79 h80
        refine sx_split 8 (todo' := [.inRegion (opsOf (cd28 [1, 1, 1, 0, 1, 0, 0, 1, 1, 0, 0, 1, 1, 1, 0, 1, 0, 0, 0])) [2, 3, 4, 5, 6, 7, 8], .code (cd28 [1, 1, 1, 0, 1, 0, 0, 1, 1, 0, 0, 1, 1, 1, 0, 1, 0, 0, 1]), .code (cd28 [1, 1, 1, 0, 1, 0, 0, 1, 1, 0, 0, 1, 1, 1, 0, 1, 0, 1]), .inBlock 2, .inBlock 1, .code (cd28 [1, 1, 1, 0, 1, 0, 0, 1, 1, 1]), .inLoop (cd28 [1, 1, 1, 0, 1, 0, 0]), .inBlock 0, .code (cd28 [1, 1, 1, 1])]) (us := [(33, .bool true), (35, .int .i64 t41)]) (d := 36) (t := (t41 == 0)) (by kernel_rfl) (fun h83 => ?_) (fun h84 => ?_)
        ·skip
         have hp85 := ite_t hp82 h83
         refine sx_run 13 (todo' := [.code (cd28 [1, 1, 1, 0, 1, 0, 0, 1, 1, 0, 0, 1, 1, 1, 0, 1, 0, 0, 1, 0, 1]), .code (cd28 [1, 1, 1, 0, 1, 0, 0, 1, 1, 0, 0, 1, 1, 1, 0, 1, 0, 1]), .inBlock 2, .inBlock 1, .code (cd28 [1, 1, 1, 0, 1, 0, 0, 1, 1, 1]), .inLoop (cd28 [1, 1, 1, 0, 1, 0, 0]), .inBlock 0, .code (cd28 [1, 1, 1, 1])]) (us := [(37, .bool true), (38, undef), (39, undef), (40, undef), (41, undef), (42, undef), (43, .bool true), (2, .bool false)]) (by kernel_rfl) ?_
         have hS86 := hS72.drop
         have hS87 := hS86.drop
         refine runs_ret (fn := Try.f28) (v := .bool false) Try.func28 (by kernel_rfl) ?_
         have hr88 := (hq52 _ (Option.some.inj hp85))
         cases hr88
         exact hR _ _ ⟨rfl, hS87⟩
        ·skip
         have hp89 := ite_f hp82 h84
         refine sx_run 2 (todo' := [.inRegion (opsOf (cd28 [1, 1, 1, 0, 1, 0, 0, 1, 1, 0, 0, 1, 1, 1, 0, 1, 0, 0, 0])) [4, 5, 6, 7, 8], .code (cd28 [1, 1, 1, 0, 1, 0, 0, 1, 1, 0, 0, 1, 1, 1, 0, 1, 0, 0, 1]), .code (cd28 [1, 1, 1, 0, 1, 0, 0, 1, 1, 0, 0, 1, 1, 1, 0, 1, 0, 1]), .inBlock 2, .inBlock 1, .code (cd28 [1, 1, 1, 0, 1, 0, 0, 1, 1, 1]), .inLoop (cd28 [1, 1, 1, 0, 1, 0, 0]), .inBlock 0, .code (cd28 [1, 1, 1, 1])]) (us := [(37, .bool false), (38, .pointer (some ⟨b62, 1, none⟩))]) (by kernel_rfl) ?_
         refine r_load (c := (cd28 [1, 1, 1, 0, 1, 0, 0, 1, 1, 0, 0, 1, 1, 1, 0, 1, 0, 0, 0])) (i := 4) (d := (some 39)) (ty := 3) (t := 3) (x := (.tmp 38)) (p := ⟨b62, 1, none⟩) (v := .int .i64 ((gt a0 t41).A)) (by kernel_rfl) (by kernel_rfl) (by kernel_rfl) (loads_at 1 (hS72.blk 0 rfl) (by kernel_rfl) (by kernel_rfl)) ?_
         refine sx_split 3 (todo' := [.inRegion (opsOf (cd28 [1, 1, 1, 0, 1, 0, 0, 1, 1, 0, 0, 1, 1, 1, 0, 1, 0, 0, 0])) [8], .code (cd28 [1, 1, 1, 0, 1, 0, 0, 1, 1, 0, 0, 1, 1, 1, 0, 1, 0, 0, 1]), .code (cd28 [1, 1, 1, 0, 1, 0, 0, 1, 1, 0, 0, 1, 1, 1, 0, 1, 0, 1]), .inBlock 2, .inBlock 1, .code (cd28 [1, 1, 1, 0, 1, 0, 0, 1, 1, 1]), .inLoop (cd28 [1, 1, 1, 0, 1, 0, 0]), .inBlock 0, .code (cd28 [1, 1, 1, 1])]) (us := [(40, .int .i64 t41), (41, .int .i64 (IntKind.i64.wrap (t41 - 1)))]) (d := 42) (t := (((gt a0 t41).A) != (IntKind.i64.wrap (t41 - 1)))) (by kernel_rfl) (fun h90 => ?_) (fun h91 => ?_)
         ·skip
          have hp92 := ite_t hp89 h90
          refine sx_run 7 (todo' := [.code (cd28 [1, 1, 1, 0, 1, 0, 0, 1, 1, 0, 0, 1, 1, 1, 0, 1, 0, 0, 1, 0, 1]), .code (cd28 [1, 1, 1, 0, 1, 0, 0, 1, 1, 0, 0, 1, 1, 1, 0, 1, 0, 1]), .inBlock 2, .inBlock 1, .code (cd28 [1, 1, 1, 0, 1, 0, 0, 1, 1, 1]), .inLoop (cd28 [1, 1, 1, 0, 1, 0, 0]), .inBlock 0, .code (cd28 [1, 1, 1, 1])]) (us := [(43, .bool true), (2, .bool false)]) (by kernel_rfl) ?_
          have hS93 := hS72.drop
          have hS94 := hS93.drop
          refine runs_ret (fn := Try.f28) (v := .bool false) Try.func28 (by kernel_rfl) ?_
          have hr95 := (hq52 _ (Option.some.inj hp92))
          cases hr95
          exact hR _ _ ⟨rfl, hS94⟩
         ·skip
          have hp96 := ite_f hp89 h91
          refine sx_run 9 (todo' := [.inRegion (opsOf (cd28 [1, 1, 1, 0, 1, 0, 0, 1, 1, 0, 0, 1, 1, 1, 0, 1, 0, 1])) [4, 5, 6, 7, 8], .inBlock 2, .inBlock 1, .code (cd28 [1, 1, 1, 0, 1, 0, 0, 1, 1, 1]), .inLoop (cd28 [1, 1, 1, 0, 1, 0, 0]), .inBlock 0, .code (cd28 [1, 1, 1, 1])]) (us := [(43, .bool false), (44, .slice A13 t42.length ((a0.length : Int).toNat)), (45, .int .i64 t41), (46, .slice A13 t42.length ((a0.length : Int).toNat)), (47, .pointer (some ⟨b62, 1, none⟩))]) (by kernel_rfl) ?_
          refine r_load (c := (cd28 [1, 1, 1, 0, 1, 0, 0, 1, 1, 0, 0, 1, 1, 1, 0, 1, 0, 1])) (i := 4) (d := (some 48)) (ty := 3) (t := 3) (x := (.tmp 47)) (p := ⟨b62, 1, none⟩) (v := .int .i64 ((gt a0 t41).A)) (by kernel_rfl) (by kernel_rfl) (by kernel_rfl) (loads_at 1 (hS72.blk 0 rfl) (by kernel_rfl) (by kernel_rfl)) ?_
          obtain ⟨g97, hp98⟩ := ite_some hp96
          obtain ⟨b99, p100, hA101, -⟩ := (hS72.row 1 rfl).at_ (len_encI .i64) (by omega) g97.1 g97.2
          refine r_indexAddr (c := (cd28 [1, 1, 1, 0, 1, 0, 0, 1, 1, 0, 0, 1, 1, 1, 0, 1, 0, 1])) (i := 5) (d := (some 49)) (ty := 0) (t := 70) (e := 3) (n := t42.length) (cp := (a0.length : Int).toNat) (sz := 1) (kk := .i64) (x := (.tmp 46)) (y := (.tmp 48)) (b := b99) (o' := p100) (j := (gt a0 t41).A) (by kernel_rfl) (by kernel_rfl) (slv (by kernel_rfl) hA101) (by kernel_rfl) (by kernel_rfl) (by kernel_rfl) g97.1 g97.2 ?_
          refine r_load (c := (cd28 [1, 1, 1, 0, 1, 0, 0, 1, 1, 0, 0, 1, 1, 1, 0, 1, 0, 1])) (i := 6) (d := (some 50)) (ty := 3) (t := 3) (x := (.tmp 49)) (p := ⟨b99, p100 + ((gt a0 t41).A).toNat * 1, none⟩) (v := .int .i64 (gt t42 ((gt a0 t41).A))) (by kernel_rfl) (by kernel_rfl) (by kernel_rfl) (loads_at 0 ((hS72.row 1 rfl).at2 hA101 (len_encI .i64) (by omega) g97.1 g97.2) (by kernel_rfl) (by kernel_rfl)) ?_
          obtain ⟨g103, hp104⟩ := ite_some hp98
          obtain ⟨b105, p106, hA107, -⟩ := (hS72.row 1 rfl).at_ (len_encI .i64) (by omega) g103.1 g103.2
          refine r_indexAddr (c := (cd28 [1, 1, 1, 0, 1, 0, 0, 1, 1, 0, 0, 1, 1, 1, 0, 1, 0, 1])) (i := 7) (d := (some 51)) (ty := 0) (t := 70) (e := 3) (n := t42.length) (cp := (a0.length : Int).toNat) (sz := 1) (kk := .i64) (x := (.tmp 44)) (y := (.tmp 45)) (b := b105) (o' := p106) (j := t41) (by kernel_rfl) (by kernel_rfl) (slv (by kernel_rfl) hA107) (by kernel_rfl) (by kernel_rfl) (by kernel_rfl) g103.1 g103.2 ?_
          have hS109 := hS72.pick1
          refine r_storeEl (c := (cd28 [1, 1, 1, 0, 1, 0, 0, 1, 1, 0, 0, 1, 1, 1, 0, 1, 0, 1])) (i := 8) (d := none) (ty := 0) (enc := (encI .i64)) (e := 3) (t := 3) (sz := 1) (cp := (a0.length : Int).toNat) (A := A13) (xs := t42) (x := (.tmp 51)) (y := (.tmp 50)) (el := gt t42 t41) (el' := (gt t42 ((gt a0 t41).A))) (j := t41) (off := 0) (b := b105) (p := p106) (v := .int .i64 (gt t42 ((gt a0 t41).A))) (vs := [.int .i64 (gt t42 ((gt a0 t41).A))]) (ad := ⟨b105, p106 + t41.toNat * 1, none⟩) hS109 (by kernel_rfl) (by kernel_rfl) (by kernel_rfl) (by simp) (by kernel_rfl) hA107 g103 rfl (len_encI .i64) (by kernel_rfl) (by kernel_rfl) (by kernel_rfl) (Nat.le_of_ble_eq_true (by kernel_rfl)) (Nat.le_of_ble_eq_true (by kernel_rfl)) (by kernel_rfl) ?_
          intro w110 hS111
          refine Runs.fill (m := [none, none, none, some (.slice A13 t42.length ((a0.length : Int).toNat)), none, none, none, none, none, none, none, none, none, none, none, none, none, none, none, none, none, none, none, none, none, none, none, none, none, none, none, none, none, none, none, none, none, none, none, none, none, none, none, none, some (.slice A13 t42.length ((a0.length : Int).toNat)), none, some (.slice A13 t42.length ((a0.length : Int).toNat)), none, none, none, none, none, none, none, none, none, none, none, none, none, none, none, none, none, none, none, none, none, none, none, none, none, none, none, none, none, none, none, none, none, none, none, none, none, none, none, none, none, none, none, none, none, none, none, none, none, none, none, none]) (by kernel_rfl) ?_
          refine Runs.refill (m' := [none, none, none, some (.slice A13 (setl t42 t41 (gt t42 ((gt a0 t41).A))).length ((a0.length : Int).toNat)), none, none, none, none, none, none, none, none, none, none, none, none, none, none, none, none, none, none, none, none, none, none, none, none, none, none, none, none, none, none, none, none, none, none, none, none, none, none, none, none, some (.slice A13 (setl t42 t41 (gt t42 ((gt a0 t41).A))).length ((a0.length : Int).toNat)), none, some (.slice A13 (setl t42 t41 (gt t42 ((gt a0 t41).A))).length ((a0.length : Int).toNat)), none, none, none, none, none, none, none, none, none, none, none, none, none, none, none, none, none, none, none, none, none, none, none, none, none, none, none, none, none, none, none, none, none, none, none, none, none, none, none, none, none, none, none, none, none, none, none, none, none, none, none, none]) (by simp only [setl_len]) ?_
          refine sx_run 7 (todo' := [.inLoop (cd28 [1, 1, 1, 0, 1, 0, 0]), .inBlock 0, .code (cd28 [1, 1, 1, 1])]) (us := [(91, .int .i64 (IntKind.i64.wrap (t41 + 1))), (19, .int .i64 (IntKind.i64.wrap (t41 + 1)))]) (by kernel_rfl) ?_
          have hS112 := hS111.pick1
          have hS113 := hS112.drop
          refine sx_run 1 (todo' := [.code (cd28 [1, 1, 1, 0, 1, 0, 0]), .inLoop (cd28 [1, 1, 1, 0, 1, 0, 0]), .inBlock 0, .code (cd28 [1, 1, 1, 1])]) (us := []) (by kernel_rfl) ?_
          refine Runs.fill (m := [some (.slice Aa0 a0.length ca0), none, none, some (.slice A13 (setl t42 t41 (gt t42 ((gt a0 t41).A))).length ((a0.length : Int).toNat)), none, none, none, none, none, none, none, none, none, none, none, none, none, some (.slice Aa0 a0.length ca0), some (.int .i64 (a0.length : Int)), some (.int .i64 (IntKind.i64.wrap (t41 + 1))), none, none, none, none, none, none, none, none, none, none, none, none, none, none, none, none, none, none, none, none, none, none, none, none, none, none, none, none, none, none, none, none, none, none, none, none, none, none, none, none, none, none, none, none, none, none, none, none, none, none, none, none, none, none, none, none, none, none, none, none, none, none, none, none, none, none, none, none, none, none, none, none, none, none, none, none, none, none, none]) (by kernel_rfl) ?_
          exact ih49 (IntKind.i64.wrap (t41 + 1)) (setl t42 t41 (gt t42 ((gt a0 t41).A))) _ hp104 he47 _ _ hS113
       ·skip
        have hp114 := ite_f hp79 h81
        obtain ⟨v115, hv116, hp117⟩ := bind_some' hp114
        have J121 : ∀ (t118 : Bool) (he123 : t118 = v115) (l122 : List Value) (w119 : World) (hS120 : St w0 Z (xrow A13 ((a0.length : Int).toNat) 3 1 (t42.flatMap (encI .i64)) :: xblk b62 52 (enc_api_Node (gt a0 t41)) :: fs) w119), Runs Try.prog 28 [.code (cd28 [1, 1, 1, 0, 1, 0, 0, 1, 1, 0, 0, 1, 1, 1, 0, 1, 1, 1]), .inBlock 2, .inBlock 1, .code (cd28 [1, 1, 1, 0, 1, 0, 0, 1, 1, 1]), .inLoop (cd28 [1, 1, 1, 0, 1, 0, 0]), .inBlock 0, .code (cd28 [1, 1, 1, 1])] (fill [some (.slice Aa0 a0.length ca0), none, none, some (.slice A13 t42.length ((a0.length : Int).toNat)), some (.int .i64 t41), some (.pointer (some ⟨b62, 0, none⟩)), none, none, none, none, none, none, none, none, none, none, none, some (.slice Aa0 a0.length ca0), some (.int .i64 (a0.length : Int)), some (.int .i64 t41), none, none, none, none, none, none, none, none, none, none, none, none, none, none, none, none, none, none, none, none, none, none, none, none, none, none, none, none, none, none, none, none, some (.bool t118), none, none, none, none, none, none, none, none, none, none, none, none, none, none, none, none, none, none, none, none, none, none, none, none, none, none, none, none, none, none, none, none, none, none, none, none, none, none, none, none, none, none, none, none, none, none] l122) w119 R := by
         intro t118 he123 l122 w119 hS120
         subst he123
         try dsimp only at hp117
         cases t118
         ·skip
          have hp124 := ite_f hp117 rfl
          refine sx_run 5 (todo' := [.inRegion (opsOf (cd28 [1, 1, 1, 0, 1, 0, 0, 1, 1, 0, 0, 1, 1, 1, 0, 1, 1, 1, 1])) [3, 4], .inBlock 2, .inBlock 1, .code (cd28 [1, 1, 1, 0, 1, 0, 0, 1, 1, 1]), .inLoop (cd28 [1, 1, 1, 0, 1, 0, 0]), .inBlock 0, .code (cd28 [1, 1, 1, 1])]) (us := [(29, .slice A13 t42.length ((a0.length : Int).toNat)), (30, .int .i64 t41), (31, .int .i64 t41)]) (by kernel_rfl) ?_
          obtain ⟨g125, hp126⟩ := ite_some hp124
          obtain ⟨b127, p128, hA129, -⟩ := (hS120.row 0 rfl).at_ (len_encI .i64) (by omega) g125.1 g125.2
          refine r_indexAddr (c := (cd28 [1, 1, 1, 0, 1, 0, 0, 1, 1, 0, 0, 1, 1, 1, 0, 1, 1, 1, 1])) (i := 3) (d := (some 32)) (ty := 0) (t := 70) (e := 3) (n := t42.length) (cp := (a0.length : Int).toNat) (sz := 1) (kk := .i64) (x := (.tmp 29)) (y := (.tmp 30)) (b := b127) (o' := p128) (j := t41) (by kernel_rfl) (by kernel_rfl) (slv (by kernel_rfl) hA129) (by kernel_rfl) (by kernel_rfl) (by kernel_rfl) g125.1 g125.2 ?_
          refine r_storeEl (c := (cd28 [1, 1, 1, 0, 1, 0, 0, 1, 1, 0, 0, 1, 1, 1, 0, 1, 1, 1, 1])) (i := 4) (d := none) (ty := 0) (enc := (encI .i64)) (e := 3) (t := 3) (sz := 1) (cp := (a0.length : Int).toNat) (A := A13) (xs := t42) (x := (.tmp 32)) (y := (.tmp 31)) (el := gt t42 t41) (el' := t41) (j := t41) (off := 0) (b := b127) (p := p128) (v := .int .i64 t41) (vs := [.int .i64 t41]) (ad := ⟨b127, p128 + t41.toNat * 1, none⟩) hS120 (by kernel_rfl) (by kernel_rfl) (by kernel_rfl) (by simp) (by kernel_rfl) hA129 g125 rfl (len_encI .i64) (by kernel_rfl) (by kernel_rfl) (by kernel_rfl) (Nat.le_of_ble_eq_true (by kernel_rfl)) (Nat.le_of_ble_eq_true (by kernel_rfl)) (by kernel_rfl) ?_
          intro w131 hS132
          refine Runs.fill (m := [none, none, none, some (.slice A13 t42.length ((a0.length : Int).toNat)), none, none, none, none, none, none, none, none, none, none, none, none, none, none, none, none, none, none, none, none, none, none, none, none, none, some (.slice A13 t42.length ((a0.length : Int).toNat)), none, none, none, none, none, none, none, none, none, none, none, none, none, none, none, none, none, none, none, none, none, none, none, none, none, none, none, none, none, none, none, none, none, none, none, none, none, none, none, none, none, none, none, none, none, none, none, none, none, none, none, none, none, none, none, none, none, none, none, none, none, none, none, none, none, none, none, none, none]) (by kernel_rfl) ?_
          refine Runs.refill (m' := [none, none, none, some (.slice A13 (setl t42 t41 t41).length ((a0.length : Int).toNat)), none, none, none, none, none, none, none, none, none, none, none, none, none, none, none, none, none, none, none, none, none, none, none, none, none, some (.slice A13 (setl t42 t41 t41).length ((a0.length : Int).toNat)), none, none, none, none, none, none, none, none, none, none, none, none, none, none, none, none, none, none, none, none, none, none, none, none, none, none, none, none, none, none, none, none, none, none, none, none, none, none, none, none, none, none, none, none, none, none, none, none, none, none, none, none, none, none, none, none, none, none, none, none, none, none, none, none, none, none, none, none, none]) (by simp only [setl_len]) ?_
          refine sx_run 7 (todo' := [.inLoop (cd28 [1, 1, 1, 0, 1, 0, 0]), .inBlock 0, .code (cd28 [1, 1, 1, 1])]) (us := [(91, .int .i64 (IntKind.i64.wrap (t41 + 1))), (19, .int .i64 (IntKind.i64.wrap (t41 + 1)))]) (by kernel_rfl) ?_
          have hS133 := hS132.pick1
          have hS134 := hS133.drop
          refine sx_run 1 (todo' := [.code (cd28 [1, 1, 1, 0, 1, 0, 0]), .inLoop (cd28 [1, 1, 1, 0, 1, 0, 0]), .inBlock 0, .code (cd28 [1, 1, 1, 1])]) (us := []) (by kernel_rfl) ?_
          refine Runs.fill (m := [some (.slice Aa0 a0.length ca0), none, none, some (.slice A13 (setl t42 t41 t41).length ((a0.length : Int).toNat)), none, none, none, none, none, none, none, none, none, none, none, none, none, some (.slice Aa0 a0.length ca0), some (.int .i64 (a0.length : Int)), some (.int .i64 (IntKind.i64.wrap (t41 + 1))), none, none, none, none, none, none, none, none, none, none, none, none, none, none, none, none, none, none, none, none, none, none, none, none, none, none, none, none, none, none, none, none, none, none, none, none, none, none, none, none, none, none, none, none, none, none, none, none, none, none, none, none, none, none, none, none, none, none, none, none, none, none, none, none, none, none, none, none, none, none, none, none, none, none, none, none, none, none, none]) (by kernel_rfl) ?_
          exact ih49 (IntKind.i64.wrap (t41 + 1)) (setl t42 t41 t41) _ hp126 he47 _ _ hS134
         ·skip
          have hp135 := ite_t hp117 rfl
          refine sx_run 3 (todo' := [.code (cd28 [1, 1, 1, 0, 1, 0, 0, 1, 1, 0, 0, 1, 1, 1, 0, 1, 1, 1, 0, 0, 0]), .code (cd28 [1, 1, 1, 0, 1, 0, 0, 1, 1, 0, 0, 1, 1, 1, 0, 1, 1, 1, 0, 0, 1]), .code (cd28 [1, 1, 1, 0, 1, 0, 0, 1, 1, 0, 0, 1, 1, 1, 0, 1, 1, 1, 0, 1]), .inBlock 2, .inBlock 1, .code (cd28 [1, 1, 1, 0, 1, 0, 0, 1, 1, 1]), .inLoop (cd28 [1, 1, 1, 0, 1, 0, 0]), .inBlock 0, .code (cd28 [1, 1, 1, 1])]) (us := []) (by kernel_rfl) ?_
          refine r_quiet hS120 (c := (cd28 [1, 1, 1, 0, 1, 0, 0, 1, 1, 0, 0, 1, 1, 1, 0, 1, 1, 1, 0, 0, 0])) (id := 17) (by kernel_rfl) (by kernel_rfl) (by kernel_rfl) (is := [0, 1, 2, 3, 4, 5, 6, 7, 8, 9, 10, 11, 12, 13, 14, 15, 16, 17, 18, 19, 20, 21, 22, 23, 24, 25, 26, 27]) (by kernel_rfl) ?_
          refine q_splitr 2 (is' := [2, 3, 4, 5, 6, 7, 8, 9, 10, 11, 12, 13, 14, 15, 16, 17, 18, 19, 20, 21, 22, 23, 24, 25, 26, 27]) (us := [(55, .int .i64 t41)]) (d := 56) (t := (t41 == 0)) (by kernel_rfl) (fun h136 => ?_) (fun h137 => ?_)
          ·skip
           have hp138 := ite_t hp135 h136
           refine q_run 26 (is' := []) (us := [(57, .bool true), (58, undef), (59, undef), (60, undef), (61, undef), (62, undef), (63, .bool true), (64, .bool true), (65, undef), (66, undef), (67, undef), (68, undef), (69, undef), (70, undef), (71, .bool true), (72, .bool true), (73, undef), (74, undef), (75, undef), (76, undef), (77, undef), (78, undef), (79, undef), (80, undef), (81, undef), (82, .bool true)]) (by kernel_rfl) ?_
           refine Qs.nil ?_
           intro w139 hS140
           refine sx_run 5 (todo' := [.code (cd28 [1, 1, 1, 0, 1, 0, 0, 1, 1, 0, 0, 1, 1, 1, 0, 1, 1, 1, 0, 0, 1, 0, 1]), .code (cd28 [1, 1, 1, 0, 1, 0, 0, 1, 1, 0, 0, 1, 1, 1, 0, 1, 1, 1, 0, 1]), .inBlock 2, .inBlock 1, .code (cd28 [1, 1, 1, 0, 1, 0, 0, 1, 1, 1]), .inLoop (cd28 [1, 1, 1, 0, 1, 0, 0]), .inBlock 0, .code (cd28 [1, 1, 1, 1])]) (us := [(2, .bool false)]) (by kernel_rfl) ?_
           have hS141 := hS140.drop
           have hS142 := hS141.drop
           refine runs_ret (fn := Try.f28) (v := .bool false) Try.func28 (by kernel_rfl) ?_
           have hr143 := (hq52 _ (Option.some.inj hp138))
           cases hr143
           exact hR _ _ ⟨rfl, hS142⟩
          ·skip
           have hp144 := ite_f hp135 h137
           refine q_run 2 (is' := [4, 5, 6, 7, 8, 9, 10, 11, 12, 13, 14, 15, 16, 17, 18, 19, 20, 21, 22, 23, 24, 25, 26, 27]) (us := [(57, .bool false), (58, .pointer (some ⟨b62, 2, none⟩))]) (by kernel_rfl) ?_
           refine q_load (c := (cd28 [1, 1, 1, 0, 1, 0, 0, 1, 1, 0, 0, 1, 1, 1, 0, 1, 1, 1, 0, 0, 0])) (i := 4) (d := (some 59)) (ty := 3) (t := 3) (x := (.tmp 58)) (p := ⟨b62, 2, none⟩) (v := .int .i64 ((gt a0 t41).B)) (by kernel_rfl) (by kernel_rfl) (by kernel_rfl) (fun w hC => (loads_at 2 (hC.blk 1 rfl) (by kernel_rfl) (by kernel_rfl))) ?_
           refine q_splitr 3 (is' := [8, 9, 10, 11, 12, 13, 14, 15, 16, 17, 18, 19, 20, 21, 22, 23, 24, 25, 26, 27]) (us := [(60, .int .i64 t41), (61, .int .i64 (IntKind.i64.wrap (t41 - 1)))]) (d := 62) (t := (((gt a0 t41).B) != (IntKind.i64.wrap (t41 - 1)))) (by kernel_rfl) (fun h145 => ?_) (fun h146 => ?_)
           ·skip
            have hp147 := ite_t hp144 h145
            refine q_run 20 (is' := []) (us := [(63, .bool true), (64, .bool true), (65, undef), (66, undef), (67, undef), (68, undef), (69, undef), (70, undef), (71, .bool true), (72, .bool true), (73, undef), (74, undef), (75, undef), (76, undef), (77, undef), (78, undef), (79, undef), (80, undef), (81, undef), (82, .bool true)]) (by kernel_rfl) ?_
            refine Qs.nil ?_
            intro w148 hS149
            refine sx_run 5 (todo' := [.code (cd28 [1, 1, 1, 0, 1, 0, 0, 1, 1, 0, 0, 1, 1, 1, 0, 1, 1, 1, 0, 0, 1, 0, 1]), .code (cd28 [1, 1, 1, 0, 1, 0, 0, 1, 1, 0, 0, 1, 1, 1, 0, 1, 1, 1, 0, 1]), .inBlock 2, .inBlock 1, .code (cd28 [1, 1, 1, 0, 1, 0, 0, 1, 1, 1]), .inLoop (cd28 [1, 1, 1, 0, 1, 0, 0]), .inBlock 0, .code (cd28 [1, 1, 1, 1])]) (us := [(2, .bool false)]) (by kernel_rfl) ?_
            have hS150 := hS149.drop
            have hS151 := hS150.drop
            refine runs_ret (fn := Try.f28) (v := .bool false) Try.func28 (by kernel_rfl) ?_
            have hr152 := (hq52 _ (Option.some.inj hp147))
            cases hr152
            exact hR _ _ ⟨rfl, hS151⟩
           ·skip
            have hp153 := ite_f hp144 h146
            refine q_run 4 (is' := [12, 13, 14, 15, 16, 17, 18, 19, 20, 21, 22, 23, 24, 25, 26, 27]) (us := [(63, .bool false), (64, .bool false), (65, .slice A13 t42.length ((a0.length : Int).toNat)), (66, .pointer (some ⟨b62, 2, none⟩))]) (by kernel_rfl) ?_
            refine q_load (c := (cd28 [1, 1, 1, 0, 1, 0, 0, 1, 1, 0, 0, 1, 1, 1, 0, 1, 1, 1, 0, 0, 0])) (i := 12) (d := (some 67)) (ty := 3) (t := 3) (x := (.tmp 66)) (p := ⟨b62, 2, none⟩) (v := .int .i64 ((gt a0 t41).B)) (by kernel_rfl) (by kernel_rfl) (by kernel_rfl) (fun w hC => (loads_at 2 (hC.blk 1 rfl) (by kernel_rfl) (by kernel_rfl))) ?_
            obtain ⟨g154, hp155⟩ := ite_some hp153
            obtain ⟨b156, p157, hA158, -⟩ := (hS120.row 0 rfl).at_ (len_encI .i64) (by omega) g154.1 g154.2
            refine q_indexAddr (c := (cd28 [1, 1, 1, 0, 1, 0, 0, 1, 1, 0, 0, 1, 1, 1, 0, 1, 1, 1, 0, 0, 0])) (i := 13) (d := (some 68)) (ty := 0) (t := 70) (e := 3) (n := t42.length) (cp := (a0.length : Int).toNat) (sz := 1) (kk := .i64) (x := (.tmp 65)) (y := (.tmp 67)) (b := b156) (o' := p157) (j := (gt a0 t41).B) (by kernel_rfl) (by kernel_rfl) (slv (by kernel_rfl) hA158) (by kernel_rfl) (by kernel_rfl) (by kernel_rfl) g154.1 g154.2 ?_
            refine q_load (c := (cd28 [1, 1, 1, 0, 1, 0, 0, 1, 1, 0, 0, 1, 1, 1, 0, 1, 1, 1, 0, 0, 0])) (i := 14) (d := (some 69)) (ty := 3) (t := 3) (x := (.tmp 68)) (p := ⟨b156, p157 + ((gt a0 t41).B).toNat * 1, none⟩) (v := .int .i64 (gt t42 ((gt a0 t41).B))) (by kernel_rfl) (by kernel_rfl) (by kernel_rfl) (fun w hC => (loads_at 0 ((hC.row 0 rfl).at2 hA158 (len_encI .i64) (by omega) g154.1 g154.2) (by kernel_rfl) (by kernel_rfl))) ?_
            refine q_splitr 1 (is' := [16, 17, 18, 19, 20, 21, 22, 23, 24, 25, 26, 27]) (us := []) (d := 70) (t := ((gt t42 ((gt a0 t41).B)) == 0)) (by kernel_rfl) (fun h160 => ?_) (fun h161 => ?_)
            ·skip
             have hp162 := ite_t hp155 h160
             refine q_run 12 (is' := []) (us := [(71, .bool true), (72, .bool true), (73, undef), (74, undef), (75, undef), (76, undef), (77, undef), (78, undef), (79, undef), (80, undef), (81, undef), (82, .bool true)]) (by kernel_rfl) ?_
             refine Qs.nil ?_
             intro w163 hS164
             refine sx_run 5 (todo' := [.code (cd28 [1, 1, 1, 0, 1, 0, 0, 1, 1, 0, 0, 1, 1, 1, 0, 1, 1, 1, 0, 0, 1, 0, 1]), .code (cd28 [1, 1, 1, 0, 1, 0, 0, 1, 1, 0, 0, 1, 1, 1, 0, 1, 1, 1, 0, 1]), .inBlock 2, .inBlock 1, .code (cd28 [1, 1, 1, 0, 1, 0, 0, 1, 1, 1]), .inLoop (cd28 [1, 1, 1, 0, 1, 0, 0]), .inBlock 0, .code (cd28 [1, 1, 1, 1])]) (us := [(2, .bool false)]) (by kernel_rfl) ?_
             have hS165 := hS164.drop
             have hS166 := hS165.drop
             refine runs_ret (fn := Try.f28) (v := .bool false) Try.func28 (by kernel_rfl) ?_
             have hr167 := (hq52 _ (Option.some.inj hp162))
             cases hr167
             exact hR _ _ ⟨rfl, hS166⟩
            ·skip
             have hp168 := ite_f hp155 h161
             refine q_run 3 (is' := [19, 20, 21, 22, 23, 24, 25, 26, 27]) (us := [(71, .bool false), (72, .bool false), (73, .pointer (some ⟨b62, 1, none⟩))]) (by kernel_rfl) ?_
             refine q_load (c := (cd28 [1, 1, 1, 0, 1, 0, 0, 1, 1, 0, 0, 1, 1, 1, 0, 1, 1, 1, 0, 0, 0])) (i := 19) (d := (some 74)) (ty := 3) (t := 3) (x := (.tmp 73)) (p := ⟨b62, 1, none⟩) (v := .int .i64 ((gt a0 t41).A)) (by kernel_rfl) (by kernel_rfl) (by kernel_rfl) (fun w hC => (loads_at 1 (hC.blk 1 rfl) (by kernel_rfl) (by kernel_rfl))) ?_
             refine q_run 2 (is' := [22, 23, 24, 25, 26, 27]) (us := [(75, .slice A13 t42.length ((a0.length : Int).toNat)), (76, .pointer (some ⟨b62, 2, none⟩))]) (by kernel_rfl) ?_
             refine q_load (c := (cd28 [1, 1, 1, 0, 1, 0, 0, 1, 1, 0, 0, 1, 1, 1, 0, 1, 1, 1, 0, 0, 0])) (i := 22) (d := (some 77)) (ty := 3) (t := 3) (x := (.tmp 76)) (p := ⟨b62, 2, none⟩) (v := .int .i64 ((gt a0 t41).B)) (by kernel_rfl) (by kernel_rfl) (by kernel_rfl) (fun w hC => (loads_at 2 (hC.blk 1 rfl) (by kernel_rfl) (by kernel_rfl))) ?_
             obtain ⟨g169, hp170⟩ := ite_some hp168
             obtain ⟨b171, p172, hA173, -⟩ := (hS120.row 0 rfl).at_ (len_encI .i64) (by omega) g169.1 g169.2
             refine q_indexAddr (c := (cd28 [1, 1, 1, 0, 1, 0, 0, 1, 1, 0, 0, 1, 1, 1, 0, 1, 1, 1, 0, 0, 0])) (i := 23) (d := (some 78)) (ty := 0) (t := 70) (e := 3) (n := t42.length) (cp := (a0.length : Int).toNat) (sz := 1) (kk := .i64) (x := (.tmp 75)) (y := (.tmp 77)) (b := b171) (o' := p172) (j := (gt a0 t41).B) (by kernel_rfl) (by kernel_rfl) (slv (by kernel_rfl) hA173) (by kernel_rfl) (by kernel_rfl) (by kernel_rfl) g169.1 g169.2 ?_
             refine q_load (c := (cd28 [1, 1, 1, 0, 1, 0, 0, 1, 1, 0, 0, 1, 1, 1, 0, 1, 1, 1, 0, 0, 0])) (i := 24) (d := (some 79)) (ty := 3) (t := 3) (x := (.tmp 78)) (p := ⟨b171, p172 + ((gt a0 t41).B).toNat * 1, none⟩) (v := .int .i64 (gt t42 ((gt a0 t41).B))) (by kernel_rfl) (by kernel_rfl) (by kernel_rfl) (fun w hC => (loads_at 0 ((hC.row 0 rfl).at2 hA173 (len_encI .i64) (by omega) g169.1 g169.2) (by kernel_rfl) (by kernel_rfl))) ?_
             refine q_splitr 2 (is' := [27]) (us := [(80, .int .i64 (IntKind.i64.wrap ((gt t42 ((gt a0 t41).B)) - 1)))]) (d := 81) (t := (((gt a0 t41).A) != (IntKind.i64.wrap ((gt t42 ((gt a0 t41).B)) - 1)))) (by kernel_rfl) (fun h175 => ?_) (fun h176 => ?_)
             ·skip
              have hp177 := ite_t hp170 h175
              refine q_run 1 (is' := []) (us := [(82, .bool true)]) (by kernel_rfl) ?_
              refine Qs.nil ?_
              intro w178 hS179
              refine sx_run 5 (todo' := [.code (cd28 [1, 1, 1, 0, 1, 0, 0, 1, 1, 0, 0, 1, 1, 1, 0, 1, 1, 1, 0, 0, 1, 0, 1]), .code (cd28 [1, 1, 1, 0, 1, 0, 0, 1, 1, 0, 0, 1, 1, 1, 0, 1, 1, 1, 0, 1]), .inBlock 2, .inBlock 1, .code (cd28 [1, 1, 1, 0, 1, 0, 0, 1, 1, 1]), .inLoop (cd28 [1, 1, 1, 0, 1, 0, 0]), .inBlock 0, .code (cd28 [1, 1, 1, 1])]) (us := [(2, .bool false)]) (by kernel_rfl) ?_
              have hS180 := hS179.drop
              have hS181 := hS180.drop
              refine runs_ret (fn := Try.f28) (v := .bool false) Try.func28 (by kernel_rfl) ?_
              have hr182 := (hq52 _ (Option.some.inj hp177))
              cases hr182
              exact hR _ _ ⟨rfl, hS181⟩
             ·skip
              have hp183 := ite_f hp170 h176
              refine q_run 1 (is' := []) (us := [(82, .bool false)]) (by kernel_rfl) ?_
              refine Qs.nil ?_
              intro w184 hS185
              refine sx_run 7 (todo' := [.inRegion (opsOf (cd28 [1, 1, 1, 0, 1, 0, 0, 1, 1, 0, 0, 1, 1, 1, 0, 1, 1, 1, 0, 1])) [4, 5, 6, 7, 8], .inBlock 2, .inBlock 1, .code (cd28 [1, 1, 1, 0, 1, 0, 0, 1, 1, 1]), .inLoop (cd28 [1, 1, 1, 0, 1, 0, 0]), .inBlock 0, .code (cd28 [1, 1, 1, 1])]) (us := [(83, .slice A13 t42.length ((a0.length : Int).toNat)), (84, .int .i64 t41), (85, .slice A13 t42.length ((a0.length : Int).toNat)), (86, .pointer (some ⟨b62, 1, none⟩))]) (by kernel_rfl) ?_
              refine r_load (c := (cd28 [1, 1, 1, 0, 1, 0, 0, 1, 1, 0, 0, 1, 1, 1, 0, 1, 1, 1, 0, 1])) (i := 4) (d := (some 87)) (ty := 3) (t := 3) (x := (.tmp 86)) (p := ⟨b62, 1, none⟩) (v := .int .i64 ((gt a0 t41).A)) (by kernel_rfl) (by kernel_rfl) (by kernel_rfl) (loads_at 1 (hS185.blk 1 rfl) (by kernel_rfl) (by kernel_rfl)) ?_
              obtain ⟨g186, hp187⟩ := ite_some hp183
              obtain ⟨b188, p189, hA190, -⟩ := (hS185.row 0 rfl).at_ (len_encI .i64) (by omega) g186.1 g186.2
              refine r_indexAddr (c := (cd28 [1, 1, 1, 0, 1, 0, 0, 1, 1, 0, 0, 1, 1, 1, 0, 1, 1, 1, 0, 1])) (i := 5) (d := (some 88)) (ty := 0) (t := 70) (e := 3) (n := t42.length) (cp := (a0.length : Int).toNat) (sz := 1) (kk := .i64) (x := (.tmp 85)) (y := (.tmp 87)) (b := b188) (o' := p189) (j := (gt a0 t41).A) (by kernel_rfl) (by kernel_rfl) (slv (by kernel_rfl) hA190) (by kernel_rfl) (by kernel_rfl) (by kernel_rfl) g186.1 g186.2 ?_
              refine r_load (c := (cd28 [1, 1, 1, 0, 1, 0, 0, 1, 1, 0, 0, 1, 1, 1, 0, 1, 1, 1, 0, 1])) (i := 6) (d := (some 89)) (ty := 3) (t := 3) (x := (.tmp 88)) (p := ⟨b188, p189 + ((gt a0 t41).A).toNat * 1, none⟩) (v := .int .i64 (gt t42 ((gt a0 t41).A))) (by kernel_rfl) (by kernel_rfl) (by kernel_rfl) (loads_at 0 ((hS185.row 0 rfl).at2 hA190 (len_encI .i64) (by omega) g186.1 g186.2) (by kernel_rfl) (by kernel_rfl)) ?_
              obtain ⟨g192, hp193⟩ := ite_some hp187
              obtain ⟨b194, p195, hA196, -⟩ := (hS185.row 0 rfl).at_ (len_encI .i64) (by omega) g192.1 g192.2
              refine r_indexAddr (c := (cd28 [1, 1, 1, 0, 1, 0, 0, 1, 1, 0, 0, 1, 1, 1, 0, 1, 1, 1, 0, 1])) (i := 7) (d := (some 90)) (ty := 0) (t := 70) (e := 3) (n := t42.length) (cp := (a0.length : Int).toNat) (sz := 1) (kk := .i64) (x := (.tmp 83)) (y := (.tmp 84)) (b := b194) (o' := p195) (j := t41) (by kernel_rfl) (by kernel_rfl) (slv (by kernel_rfl) hA196) (by kernel_rfl) (by kernel_rfl) (by kernel_rfl) g192.1 g192.2 ?_
              refine r_storeEl (c := (cd28 [1, 1, 1, 0, 1, 0, 0, 1, 1, 0, 0, 1, 1, 1, 0, 1, 1, 1, 0, 1])) (i := 8) (d := none) (ty := 0) (enc := (encI .i64)) (e := 3) (t := 3) (sz := 1) (cp := (a0.length : Int).toNat) (A := A13) (xs := t42) (x := (.tmp 90)) (y := (.tmp 89)) (el := gt t42 t41) (el' := (gt t42 ((gt a0 t41).A))) (j := t41) (off := 0) (b := b194) (p := p195) (v := .int .i64 (gt t42 ((gt a0 t41).A))) (vs := [.int .i64 (gt t42 ((gt a0 t41).A))]) (ad := ⟨b194, p195 + t41.toNat * 1, none⟩) hS185 (by kernel_rfl) (by kernel_rfl) (by kernel_rfl) (by simp) (by kernel_rfl) hA196 g192 rfl (len_encI .i64) (by kernel_rfl) (by kernel_rfl) (by kernel_rfl) (Nat.le_of_ble_eq_true (by kernel_rfl)) (Nat.le_of_ble_eq_true (by kernel_rfl)) (by kernel_rfl) ?_
              intro w198 hS199
              refine Runs.fill (m := [none, none, none, some (.slice A13 t42.length ((a0.length : Int).toNat)), none, none, none, none, none, none, none, none, none, none, none, none, none, none, none, none, none, none, none, none, none, none, none, none, none, none, none, none, none, none, none, none, none, none, none, none, none, none, none, none, none, none, none, none, none, none, none, none, none, none, none, none, none, none, none, none, none, none, none, none, none, some (.slice A13 t42.length ((a0.length : Int).toNat)), none, none, none, none, none, none, none, none, none, some (.slice A13 t42.length ((a0.length : Int).toNat)), none, none, none, none, none, none, none, some (.slice A13 t42.length ((a0.length : Int).toNat)), none, some (.slice A13 t42.length ((a0.length : Int).toNat)), none, none, none, none, none, none, none, none, none, none, none, none, none]) (by kernel_rfl) ?_
              refine Runs.refill (m' := [none, none, none, some (.slice A13 (setl t42 t41 (gt t42 ((gt a0 t41).A))).length ((a0.length : Int).toNat)), none, none, none, none, none, none, none, none, none, none, none, none, none, none, none, none, none, none, none, none, none, none, none, none, none, none, none, none, none, none, none, none, none, none, none, none, none, none, none, none, none, none, none, none, none, none, none, none, none, none, none, none, none, none, none, none, none, none, none, none, none, some (.slice A13 (setl t42 t41 (gt t42 ((gt a0 t41).A))).length ((a0.length : Int).toNat)), none, none, none, none, none, none, none, none, none, some (.slice A13 (setl t42 t41 (gt t42 ((gt a0 t41).A))).length ((a0.length : Int).toNat)), none, none, none, none, none, none, none, some (.slice A13 (setl t42 t41 (gt t42 ((gt a0 t41).A))).length ((a0.length : Int).toNat)), none, some (.slice A13 (setl t42 t41 (gt t42 ((gt a0 t41).A))).length ((a0.length : Int).toNat)), none, none, none, none, none, none, none, none, none, none, none, none, none]) (by simp only [setl_len]) ?_
              refine sx_run 7 (todo' := [.inLoop (cd28 [1, 1, 1, 0, 1, 0, 0]), .inBlock 0, .code (cd28 [1, 1, 1, 1])]) (us := [(91, .int .i64 (IntKind.i64.wrap (t41 + 1))), (19, .int .i64 (IntKind.i64.wrap (t41 + 1)))]) (by kernel_rfl) ?_
              have hS200 := hS199.pick1
              have hS201 := hS200.drop
              refine sx_run 1 (todo' := [.code (cd28 [1, 1, 1, 0, 1, 0, 0]), .inLoop (cd28 [1, 1, 1, 0, 1, 0, 0]), .inBlock 0, .code (cd28 [1, 1, 1, 1])]) (us := []) (by kernel_rfl) ?_
              refine Runs.fill (m := [some (.slice Aa0 a0.length ca0), none, none, some (.slice A13 (setl t42 t41 (gt t42 ((gt a0 t41).A))).length ((a0.length : Int).toNat)), none, none, none, none, none, none, none, none, none, none, none, none, none, some (.slice Aa0 a0.length ca0), some (.int .i64 (a0.length : Int)), some (.int .i64 (IntKind.i64.wrap (t41 + 1))), none, none, none, none, none, none, none, none, none, none, none, none, none, none, none, none, none, none, none, none, none, none, none, none, none, none, none, none, none, none, none, none, none, none, none, none, none, none, none, none, none, none, none, none, none, none, none, none, none, none, none, none, none, none, none, none, none, none, none, none, none, none, none, none, none, none, none, none, none, none, none, none, none, none, none, none, none, none, none]) (by kernel_rfl) ?_
              exact ih49 (IntKind.i64.wrap (t41 + 1)) (setl t42 t41 (gt t42 ((gt a0 t41).A))) _ hp193 he47 _ _ hS201
        refine sx_split 7 (todo' := [.inRegion (opsOf (cd28 [1, 1, 1, 0, 1, 0, 0, 1, 1, 0, 0, 1, 1, 1, 0, 1, 1, 0, 0])) [1], .code (cd28 [1, 1, 1, 0, 1, 0, 0, 1, 1, 0, 0, 1, 1, 1, 0, 1, 1, 0, 1]), .code (cd28 [1, 1, 1, 0, 1, 0, 0, 1, 1, 0, 0, 1, 1, 1, 0, 1, 1, 1]), .inBlock 2, .inBlock 1, .code (cd28 [1, 1, 1, 0, 1, 0, 0, 1, 1, 1]), .inLoop (cd28 [1, 1, 1, 0, 1, 0, 0]), .inBlock 0, .code (cd28 [1, 1, 1, 1])]) (us := [(33, .bool false)]) (d := 53) (t := (((gt a0 t41).Op) == 4)) (by kernel_rfl) (fun h202 => ?_) (fun h203 => ?_)
        ·skip
         have hp204 := ite_t hv116 h202
         refine sx_run 4 (todo' := [.code (cd28 [1, 1, 1, 0, 1, 0, 0, 1, 1, 0, 0, 1, 1, 1, 0, 1, 1, 1]), .inBlock 2, .inBlock 1, .code (cd28 [1, 1, 1, 0, 1, 0, 0, 1, 1, 1]), .inLoop (cd28 [1, 1, 1, 0, 1, 0, 0]), .inBlock 0, .code (cd28 [1, 1, 1, 1])]) (us := [(52, .bool true)]) (by kernel_rfl) ?_
         have hS205 := hS72.pick1
         refine Runs.fill (m := [some (.slice Aa0 a0.length ca0), none, none, some (.slice A13 t42.length ((a0.length : Int).toNat)), some (.int .i64 t41), some (.pointer (some ⟨b62, 0, none⟩)), none, none, none, none, none, none, none, none, none, none, none, some (.slice Aa0 a0.length ca0), some (.int .i64 (a0.length : Int)), some (.int .i64 t41), none, none, none, none, none, none, none, none, none, none, none, none, none, none, none, none, none, none, none, none, none, none, none, none, none, none, none, none, none, none, none, none, some (.bool true), none, none, none, none, none, none, none, none, none, none, none, none, none, none, none, none, none, none, none, none, none, none, none, none, none, none, none, none, none, none, none, none, none, none, none, none, none, none, none, none, none, none, none, none, none, none]) (by kernel_rfl) ?_
         exact J121 true (Option.some.inj hp204) _ _ hS205
        ·skip
         have hp206 := ite_f hv116 h203
         refine sx_split 5 (todo' := [.inRegion (opsOf (cd28 [1, 1, 1, 0, 1, 0, 0, 1, 1, 0, 0, 1, 1, 1, 0, 1, 1, 0, 1, 1])) [1], .code (cd28 [1, 1, 1, 0, 1, 0, 0, 1, 1, 0, 0, 1, 1, 1, 0, 1, 1, 1]), .inBlock 2, .inBlock 1, .code (cd28 [1, 1, 1, 0, 1, 0, 0, 1, 1, 1]), .inLoop (cd28 [1, 1, 1, 0, 1, 0, 0]), .inBlock 0, .code (cd28 [1, 1, 1, 1])]) (us := [(52, .bool false)]) (d := 54) (t := (((gt a0 t41).Op) == 5)) (by kernel_rfl) (fun h207 => ?_) (fun h208 => ?_)
         ·skip
          have hp209 := ite_t hp206 h207
          refine sx_run 2 (todo' := [.code (cd28 [1, 1, 1, 0, 1, 0, 0, 1, 1, 0, 0, 1, 1, 1, 0, 1, 1, 1]), .inBlock 2, .inBlock 1, .code (cd28 [1, 1, 1, 0, 1, 0, 0, 1, 1, 1]), .inLoop (cd28 [1, 1, 1, 0, 1, 0, 0]), .inBlock 0, .code (cd28 [1, 1, 1, 1])]) (us := [(52, .bool true)]) (by kernel_rfl) ?_
          have hS210 := hS72.pick1
          refine Runs.fill (m := [some (.slice Aa0 a0.length ca0), none, none, some (.slice A13 t42.length ((a0.length : Int).toNat)), some (.int .i64 t41), some (.pointer (some ⟨b62, 0, none⟩)), none, none, none, none, none, none, none, none, none, none, none, some (.slice Aa0 a0.length ca0), some (.int .i64 (a0.length : Int)), some (.int .i64 t41), none, none, none, none, none, none, none, none, none, none, none, none, none, none, none, none, none, none, none, none, none, none, none, none, none, none, none, none, none, none, none, none, some (.bool true), none, none, none, none, none, none, none, none, none, none, none, none, none, none, none, none, none, none, none, none, none, none, none, none, none, none, none, none, none, none, none, none, none, none, none, none, none, none, none, none, none, none, none, none, none, none]) (by kernel_rfl) ?_
          exact J121 true (Option.some.inj hp209) _ _ hS210
         ·skip
          have hp211 := ite_f hp206 h208
          refine sx_run 2 (todo' := [.code (cd28 [1, 1, 1, 0, 1, 0, 0, 1, 1, 0, 0, 1, 1, 1, 0, 1, 1, 1]), .inBlock 2, .inBlock 1, .code (cd28 [1, 1, 1, 0, 1, 0, 0, 1, 1, 1]), .inLoop (cd28 [1, 1, 1, 0, 1, 0, 0]), .inBlock 0, .code (cd28 [1, 1, 1, 1])]) (us := [(52, .bool false)]) (by kernel_rfl) ?_
          have hS212 := hS72.pick1
          refine Runs.fill (m := [some (.slice Aa0 a0.length ca0), none, none, some (.slice A13 t42.length ((a0.length : Int).toNat)), some (.int .i64 t41), some (.pointer (some ⟨b62, 0, none⟩)), none, none, none, none, none, none, none, none, none, none, none, some (.slice Aa0 a0.length ca0), some (.int .i64 (a0.length : Int)), some (.int .i64 t41), none, none, none, none, none, none, none, none, none, none, none, none, none, none, none, none, none, none, none, none, none, none, none, none, none, none, none, none, none, none, none, none, some (.bool false), none, none, none, none, none, none, none, none, none, none, none, none, none, none, none, none, none, none, none, none, none, none, none, none, none, none, none, none, none, none, none, none, none, none, none, none, none, none, none, none, none, none, none, none, none, none]) (by kernel_rfl) ?_
          exact J121 false (Option.some.inj hp211) _ _ hS212
     ·skip
      have hp213 := ite_f hb48 h54
      refine sx_run 4 (todo' := [.code (cd28 [1, 1, 1, 1])]) (us := []) (by kernel_rfl) ?_
      refine Runs.fill (m := [some (.slice Aa0 a0.length ca0), none, none, some (.slice A13 t42.length ((a0.length : Int).toNat)), none, none, none, none, none, none, none, none, none, none, none, none, none, none, none, none, none, none, none, none, none, none, none, none, none, none, none, none, none, none, none, none, none, none, none, none, none, none, none, none, none, none, none, none, none, none, none, none, none, none, none, none, none, none, none, none, none, none, none, none, none, none, none, none, none, none, none, none, none, none, none, none, none, none, none, none, none, none, none, none, none, none, none, none, none, none, none, none, none, none, none, none, none, none, none]) (by kernel_rfl) ?_
      exact J24 t42 ((Option.some.inj hp213).trans he47) _ _ hS44
    refine Runs.fill (m := [some (.slice Aa0 a0.length ca0), none, none, some (.slice A13 (List.replicate (a0.length : Int).toNat (0 : Int)).length ((a0.length : Int).toNat)), none, none, none, none, none, none, none, none, none, none, none, none, none, some (.slice Aa0 a0.length ca0), some (.int .i64 (a0.length : Int)), some (.int .i64 0), none, none, none, none, none, none, none, none, none, none, none, none, none, none, none, none, none, none, none, none, none, none, none, none, none, none, none, none, none, none, none, none, none, none, none, none, none, none, none, none, none, none, none, none, none, none, none, none, none, none, none, none, none, none, none, none, none, none, none, none, none, none, none, none, none, none, none, none, none, none, none, none, none, none, none, none, none, none, none]) (by kernel_rfl) ?_
    exact L51 0 (List.replicate (a0.length : Int).toNat (0 : Int)) _ hv18 rfl _ _ hS15

noncomputable def cd38 (p : List Nat) : Code := sub (bodyOf Try.f38) p
def cond_bracketed.f (a0 : Int) (a1 : Int) (a2 : Bool) : Option Bool :=
  (if (a0 == 3) = true then (if (a1 == 4) = true then some (true) else (if (a1 == 5) = true then some (true) else some (false))) else (if (a0 == 4) = true then (if (a1 == 5) = true then some (true) else (if (a1 == 4) = true then some (a2) else some (false))) else (if (a1 == 5) = true then some (a2) else some (false))))
set_option maxHeartbeats 16000000 in
theorem cond_bracketed.ok (a0 : Int) (a1 : Int) (a2 : Bool) {w0 : World} {Z : Zm} {fs : List XObj} {w : World} (hS0 : St w0 Z (fs) w) {q0 : Bool} (hp0 : cond_bracketed.f a0 a1 a2 = some q0) :
    Calls Try.prog 38 #[.int .i64 a0, .int .i64 a1, .bool a2] w (fun e w' => e = .returned (.bool q0) ∧ St w0 Z (fs) w') := by
  refine calls_abs ?_; intro R hR
  unfold cond_bracketed.f at hp0
  refine calls_of_runs (fn := Try.f38) (c := cd38 []) Try.func38 (by kernel_rfl) (al := [.int .i64 a0, .int .i64 a1, .bool a2]) rfl (n := 29) rfl ?_
  refine sx_split 13 (todo' := [.inRegion (opsOf (cd38 [1, 0, 1, 0, 0])) [1], .code (cd38 [1, 0, 1, 0, 1]), .inBlock 0, .code (cd38 [1, 1])]) (us := [(6, .bool false), (7, .int .i64 a0)]) (d := 9) (t := (a0 == 3)) (by kernel_rfl) (fun h1 => ?_) (fun h2 => ?_)
  ·skip
   have hp3 := ite_t hp0 h1
   refine sx_split 7 (todo' := [.inRegion (opsOf (cd38 [1, 0, 1, 0, 1, 0, 0])) [2, 3, 4, 5, 6], .code (cd38 [1, 0, 1, 0, 1, 0, 1]), .inBlock 0, .code (cd38 [1, 1])]) (us := [(8, .bool true), (10, .int .i64 a1)]) (d := 11) (t := (a1 == 4)) (by kernel_rfl) (fun h4 => ?_) (fun h5 => ?_)
   ·skip
    have hp6 := ite_t hp3 h4
    refine sx_run 6 (todo' := [.code (cd38 [1, 0, 1, 0, 1, 0, 1]), .inBlock 0, .code (cd38 [1, 1])]) (us := [(12, .bool true), (13, undef), (14, undef), (15, .bool true), (6, .bool true)]) (by kernel_rfl) ?_
    refine runs_ret (fn := Try.f38) (v := .bool true) Try.func38 (by kernel_rfl) ?_
    have hr7 := (Option.some.inj hp6)
    cases hr7
    exact hR _ _ ⟨rfl, hS0⟩
   ·skip
    have hp8 := ite_f hp3 h5
    refine sx_split 3 (todo' := [.inRegion (opsOf (cd38 [1, 0, 1, 0, 1, 0, 0])) [5, 6], .code (cd38 [1, 0, 1, 0, 1, 0, 1]), .inBlock 0, .code (cd38 [1, 1])]) (us := [(12, .bool false), (13, .int .i64 a1)]) (d := 14) (t := (a1 == 5)) (by kernel_rfl) (fun h9 => ?_) (fun h10 => ?_)
    ·skip
     have hp11 := ite_t hp8 h9
     refine sx_run 3 (todo' := [.code (cd38 [1, 0, 1, 0, 1, 0, 1]), .inBlock 0, .code (cd38 [1, 1])]) (us := [(15, .bool true), (6, .bool true)]) (by kernel_rfl) ?_
     refine runs_ret (fn := Try.f38) (v := .bool true) Try.func38 (by kernel_rfl) ?_
     have hr12 := (Option.some.inj hp11)
     cases hr12
     exact hR _ _ ⟨rfl, hS0⟩
    ·skip
     have hp13 := ite_f hp8 h10
     refine sx_run 3 (todo' := [.code (cd38 [1, 0, 1, 0, 1, 0, 1]), .inBlock 0, .code (cd38 [1, 1])]) (us := [(15, .bool false), (6, .bool false)]) (by kernel_rfl) ?_
     refine runs_ret (fn := Try.f38) (v := .bool false) Try.func38 (by kernel_rfl) ?_
     have hr14 := (Option.some.inj hp13)
     cases hr14
     exact hR _ _ ⟨rfl, hS0⟩
  ·skip
   have hp15 := ite_f hp0 h2
   refine sx_split 6 (todo' := [.inRegion (opsOf (cd38 [1, 0, 1, 0, 1, 1, 0])) [1], .code (cd38 [1, 0, 1, 0, 1, 1, 1]), .inBlock 0, .code (cd38 [1, 1])]) (us := [(8, .bool false)]) (d := 17) (t := (a0 == 4)) (by kernel_rfl) (fun h16 => ?_) (fun h17 => ?_)
   ·skip
    have hp18 := ite_t hp15 h16
    refine sx_split 7 (todo' := [.inRegion (opsOf (cd38 [1, 0, 1, 0, 1, 1, 1, 0, 0])) [2, 3, 4, 5, 6, 7, 8, 9], .code (cd38 [1, 0, 1, 0, 1, 1, 1, 0, 1]), .inBlock 0, .code (cd38 [1, 1])]) (us := [(16, .bool true), (18, .int .i64 a1)]) (d := 19) (t := (a1 == 5)) (by kernel_rfl) (fun h19 => ?_) (fun h20 => ?_)
    ·skip
     have hp21 := ite_t hp18 h19
     refine sx_run 9 (todo' := [.code (cd38 [1, 0, 1, 0, 1, 1, 1, 0, 1]), .inBlock 0, .code (cd38 [1, 1])]) (us := [(20, .bool true), (21, undef), (22, undef), (23, undef), (24, undef), (25, undef), (26, .bool true), (6, .bool true)]) (by kernel_rfl) ?_
     refine runs_ret (fn := Try.f38) (v := .bool true) Try.func38 (by kernel_rfl) ?_
     have hr22 := (Option.some.inj hp21)
     cases hr22
     exact hR _ _ ⟨rfl, hS0⟩
    ·skip
     have hp23 := ite_f hp18 h20
     refine sx_split 3 (todo' := [.inRegion (opsOf (cd38 [1, 0, 1, 0, 1, 1, 1, 0, 0])) [5, 6, 7, 8, 9], .code (cd38 [1, 0, 1, 0, 1, 1, 1, 0, 1]), .inBlock 0, .code (cd38 [1, 1])]) (us := [(20, .bool false), (21, .int .i64 a1)]) (d := 22) (t := (a1 == 4)) (by kernel_rfl) (fun h24 => ?_) (fun h25 => ?_)
     ·skip
      have hp26 := ite_t hp23 h24
      refine sx_run 6 (todo' := [.code (cd38 [1, 0, 1, 0, 1, 1, 1, 0, 1]), .inBlock 0, .code (cd38 [1, 1])]) (us := [(23, .bool true), (24, .bool a2), (25, .bool a2), (26, .bool a2), (6, .bool a2)]) (by kernel_rfl) ?_
      refine runs_ret (fn := Try.f38) (v := .bool a2) Try.func38 (by kernel_rfl) ?_
      have hr27 := (Option.some.inj hp26)
      cases hr27
      exact hR _ _ ⟨rfl, hS0⟩
     ·skip
      have hp28 := ite_f hp23 h25
      refine sx_run 6 (todo' := [.code (cd38 [1, 0, 1, 0, 1, 1, 1, 0, 1]), .inBlock 0, .code (cd38 [1, 1])]) (us := [(23, .bool false), (24, undef), (25, .bool false), (26, .bool false), (6, .bool false)]) (by kernel_rfl) ?_
      refine runs_ret (fn := Try.f38) (v := .bool false) Try.func38 (by kernel_rfl) ?_
      have hr29 := (Option.some.inj hp28)
      cases hr29
      exact hR _ _ ⟨rfl, hS0⟩
   ·skip
    have hp30 := ite_f hp15 h17
    refine sx_split 9 (todo' := [.inRegion (opsOf (cd38 [1, 1, 0])) [2, 3, 4, 5], .code (cd38 [1, 1, 1])]) (us := [(16, .bool false), (27, .int .i64 a1)]) (d := 28) (t := (a1 == 5)) (by kernel_rfl) (fun h31 => ?_) (fun h32 => ?_)
    ·skip
     have hp33 := ite_t hp30 h31
     refine sx_run 5 (todo' := [.code (cd38 [1, 1, 1])]) (us := [(29, .bool true), (30, .bool a2), (31, .bool a2), (6, .bool a2)]) (by kernel_rfl) ?_
     refine runs_ret (fn := Try.f38) (v := .bool a2) Try.func38 (by kernel_rfl) ?_
     have hr34 := (Option.some.inj hp33)
     cases hr34
     exact hR _ _ ⟨rfl, hS0⟩
    ·skip
     have hp35 := ite_f hp30 h32
     refine sx_run 5 (todo' := [.code (cd38 [1, 1, 1])]) (us := [(29, .bool false), (30, undef), (31, .bool false), (6, .bool false)]) (by kernel_rfl) ?_
     refine runs_ret (fn := Try.f38) (v := .bool false) Try.func38 (by kernel_rfl) ?_
     have hr36 := (Option.some.inj hp35)
     cases hr36
     exact hR _ _ ⟨rfl, hS0⟩

def cond_deep.Spec (rec : (List api_Node) → Int → Option Int) : Prop := ∀ (a0 : List api_Node) (a1 : Int) (Aa0 : Option Addr) (ca0 : Nat) {w0 : World} {Z : Zm} {fs : List XObj} {w : World} (_ : St w0 Z (fs) w) (_ : SlZ (flat enc_api_Node) 6 Z Aa0 ca0 a0) {q0 : Int}, rec a0 a1 = some q0 →
    Calls Try.prog 29 #[.slice Aa0 a0.length ca0, .int .i64 a1] w (fun e w' => e = .returned (.int .i64 q0) ∧ St w0 Z (fs) w')

noncomputable def cd37 (p : List Nat) : Code := sub (bodyOf Try.f37) p
def cond_deep_1_1.f (rec_cond_deep : (List api_Node) → Int → Option Int) (a0 : Int) (a1 : Bool) (a2v : List api_Node) (a3v : api_Node) : Option Int :=
  (rec_cond_deep a2v a0 >>= (fun t1 => (if 0 ≤ a0 ∧ a0 < (a2v.length : Int) then (cond_bracketed.f a3v.Op ((gt a2v a0).Op) a1 >>= (fun t12 => (if t12 = true then some ((IntKind.i64.wrap (t1 + 1))) else some (t1)))) else none)))
set_option maxHeartbeats 16000000 in
theorem cond_deep_1_1.ok (rec_cond_deep : (List api_Node) → Int → Option Int) (hrec_cond_deep : cond_deep.Spec rec_cond_deep) (a0 : Int) (a1 : Bool) (a2v : List api_Node) (a3v : api_Node) (ba2 : Nat) (Aa2v : Option Addr) (ca2v : Nat) (ba3 : Nat) {w0 : World} {Z : Zm} {fs : List XObj} {w : World} (hS0 : St w0 Z (xblk ba2 23 ([.slice Aa2v a2v.length ca2v]) :: xblk ba3 52 (enc_api_Node a3v) :: fs) w) (ha2v : SlZ (flat enc_api_Node) 6 Z Aa2v ca2v a2v) {q0 : Int} (hp0 : cond_deep_1_1.f rec_cond_deep a0 a1 a2v a3v = some q0) :
    Calls Try.prog 37 #[.int .i64 a0, .bool a1, .pointer (some ⟨ba2, 0, none⟩), .pointer (some ⟨ba3, 0, none⟩)] w (fun e w' => e = .returned (.int .i64 q0) ∧ St w0 Z (xblk ba2 23 ([.slice Aa2v a2v.length ca2v]) :: xblk ba3 52 (enc_api_Node a3v) :: fs) w') := by
  refine calls_abs ?_; intro R hR
  unfold cond_deep_1_1.f at hp0
  refine calls_of_runs (fn := Try.f37) (c := cd37 []) Try.func37 (by kernel_rfl) (al := [.int .i64 a0, .bool a1, .pointer (some ⟨ba2, 0, none⟩), .pointer (some ⟨ba3, 0, none⟩)]) rfl (n := 19) rfl ?_
  refine sx_run 6 (todo' := [.inRegion (opsOf (cd37 [1, 0])) [0, 1, 2, 3], .code (cd37 [1, 1])]) (us := [(6, .int .i64 0)]) (by kernel_rfl) ?_
  refine r_load (c := (cd37 [1, 0])) (i := 0) (d := (some 8)) (ty := 23) (t := 23) (x := (.tmp 2)) (p := ⟨ba2, 0, none⟩) (v := .slice Aa2v a2v.length ca2v) (by kernel_rfl) (by kernel_rfl) (by kernel_rfl) (loads_at 0 (hS0.blk 0 rfl) (by kernel_rfl) (by kernel_rfl)) ?_
  refine sx_run 1 (todo' := [.inRegion (opsOf (cd37 [1, 0])) [2, 3], .code (cd37 [1, 1])]) (us := [(9, .int .i64 a0)]) (by kernel_rfl) ?_
  obtain ⟨t1, hr2, hp3⟩ := bind_some' hp0
  refine r_call1 (c := (cd37 [1, 0])) (i := 2) (d := (some 10)) (g := 29) (args := #[.slice Aa2v a2v.length ca2v, .int .i64 a0]) (by kernel_rfl) (by kernel_rfl) (by kernel_rfl) (by kernel_rfl) (hrec_cond_deep a2v a0 Aa2v ca2v hS0 ha2v hr2) ?_
  rintro _ w4 ⟨rfl, hS5⟩
  refine ⟨.int .i64 t1, rfl, ?_⟩
  refine sx_run 4 (todo' := [.code (cd37 [1, 1, 0, 0]), .code (cd37 [1, 1, 0, 1]), .code (cd37 [1, 1, 1])]) (us := [(7, .int .i64 t1)]) (by kernel_rfl) ?_
  refine r_quiet hS5 (c := (cd37 [1, 1, 0, 0])) (id := 2) (by kernel_rfl) (by kernel_rfl) (by kernel_rfl) (is := [0, 1, 2, 3, 4, 5, 6, 7, 8]) (by kernel_rfl) ?_
  refine q_run 1 (is' := [1, 2, 3, 4, 5, 6, 7, 8]) (us := [(11, .pointer (some ⟨ba3, 0, none⟩))]) (by kernel_rfl) ?_
  refine q_load (c := (cd37 [1, 1, 0, 0])) (i := 1) (d := (some 12)) (ty := 3) (t := 3) (x := (.tmp 11)) (p := ⟨ba3, 0, none⟩) (v := .int .i64 a3v.Op) (by kernel_rfl) (by kernel_rfl) (by kernel_rfl) (fun w hC => (loads_at 0 (hC.blk 1 rfl) (by kernel_rfl) (by kernel_rfl))) ?_
  refine q_load (c := (cd37 [1, 1, 0, 0])) (i := 2) (d := (some 13)) (ty := 23) (t := 23) (x := (.tmp 2)) (p := ⟨ba2, 0, none⟩) (v := .slice Aa2v a2v.length ca2v) (by kernel_rfl) (by kernel_rfl) (by kernel_rfl) (fun w hC => (loads_at 0 (hC.blk 0 rfl) (by kernel_rfl) (by kernel_rfl))) ?_
  refine q_run 1 (is' := [4, 5, 6, 7, 8]) (us := [(14, .int .i64 a0)]) (by kernel_rfl) ?_
  obtain ⟨g6, hp7⟩ := ite_some hp3
  obtain ⟨b8, p9, hA10, hc11⟩ := ha2v.atF g6.1 g6.2
  refine q_indexAddr (c := (cd37 [1, 1, 0, 0])) (i := 4) (d := (some 15)) (ty := 0) (t := 23) (e := 52) (n := a2v.length) (cp := ca2v) (sz := 6) (kk := .i64) (x := (.tmp 13)) (y := (.tmp 14)) (b := b8) (o' := p9) (j := a0) (by kernel_rfl) (by kernel_rfl) (slv (by kernel_rfl) hA10) (by kernel_rfl) (by kernel_rfl) (by kernel_rfl) g6.1 g6.2 ?_
  refine q_run 1 (is' := [6, 7, 8]) (us := [(16, .pointer (some ⟨b8, p9 + a0.toNat * 6, none⟩))]) (by kernel_rfl) ?_
  refine q_load (c := (cd37 [1, 1, 0, 0])) (i := 6) (d := (some 17)) (ty := 3) (t := 3) (x := (.tmp 16)) (p := ⟨b8, p9 + a0.toNat * 6, none⟩) (v := .int .i64 ((gt a2v a0).Op)) (by kernel_rfl) (by kernel_rfl) (by kernel_rfl) (fun w hC => (loads_at 0 (hc11.cells hC) (by kernel_rfl) (by kernel_rfl))) ?_
  refine q_run 1 (is' := [8]) (us := [(18, .bool a1)]) (by kernel_rfl) ?_
  obtain ⟨t12, hr13, hp14⟩ := bind_some' hp7
  refine q_call1 (c := (cd37 [1, 1, 0, 0])) (i := 8) (d := (some 19)) (v := .bool t12) (g := 38) (args := #[.int .i64 a3v.Op, .int .i64 ((gt a2v a0).Op), .bool a1]) (by kernel_rfl) (by kernel_rfl) (by kernel_rfl) (by kernel_rfl) (fun w hC => by
   refine (cond_bracketed.ok a3v.Op ((gt a2v a0).Op) a1 hC hr13).mono ?_
   rintro e w2 ⟨rfl, h2⟩
   have hS15 := h2.pick1
   have hS16 := hS15.pick1
   exact ⟨rfl, hS16⟩) ?_
  refine Qs.nil ?_
  intro w17 hS18
  cases t12
  ·skip
   have hp19 := ite_f hp14 rfl
   refine sx_run 7 (todo' := [.code (cd37 [1, 1, 1, 1])]) (us := [(22, .int .i64 t1), (6, .int .i64 t1)]) (by kernel_rfl) ?_
   refine runs_ret (fn := Try.f37) (v := .int .i64 t1) Try.func37 (by kernel_rfl) ?_
   have hr20 := (Option.some.inj hp19)
   cases hr20
   exact hR _ _ ⟨rfl, hS18⟩
  ·skip
   have hp21 := ite_t hp14 rfl
   refine sx_run 11 (todo' := [.code (cd37 [1, 1, 1, 1])]) (us := [(20, .int .i64 t1), (21, .int .i64 (IntKind.i64.wrap (t1 + 1))), (7, .int .i64 (IntKind.i64.wrap (t1 + 1))), (22, .int .i64 (IntKind.i64.wrap (t1 + 1))), (6, .int .i64 (IntKind.i64.wrap (t1 + 1)))]) (by kernel_rfl) ?_
   refine runs_ret (fn := Try.f37) (v := .int .i64 (IntKind.i64.wrap (t1 + 1))) Try.func37 (by kernel_rfl) ?_
   have hr22 := (Option.some.inj hp21)
   cases hr22
   exact hR _ _ ⟨rfl, hS18⟩

noncomputable def cd29 (p : List Nat) : Code := sub (bodyOf Try.f29) p
def cond_deep.body (rec_cond_deep : (List api_Node) → Int → Option Int) (a0 : List api_Node) (a1 : Int) : Option Int :=
  (if 0 ≤ a1 ∧ a1 < (a0.length : Int) then (if (((gt a0 a1).Op) == 3) = true then (cond_deep_1_1.f rec_cond_deep ((gt a0 a1).A) false a0 (gt a0 a1) >>= (fun t20 => some ((IntKind.i64.wrap (1 + t20))))) else (((if (((gt a0 a1).Op) == 4) = true then some (true) else (if (((gt a0 a1).Op) == 5) = true then some (true) else some (false))) : Option Bool) >>= (fun t34 => (if t34 = true then (cond_deep_1_1.f rec_cond_deep ((gt a0 a1).A) false a0 (gt a0 a1) >>= (fun t45 => (cond_deep_1_1.f rec_cond_deep ((gt a0 a1).B) true a0 (gt a0 a1) >>= (fun t53 => some ((bmax t45 t53)))))) else some (0))))) else none)
set_option maxHeartbeats 16000000 in
theorem cond_deep.bok (rec_cond_deep : (List api_Node) → Int → Option Int) (hrec_cond_deep : cond_deep.Spec rec_cond_deep) : cond_deep.Spec (cond_deep.body rec_cond_deep) := by
  intro a0 a1 Aa0 ca0 w0 Z fs w hS0 ha0 q0 hp0
  refine calls_abs ?_; intro R hR
  unfold cond_deep.body at hp0
  refine calls_of_runs (fn := Try.f29) (c := cd29 []) Try.func29 (by kernel_rfl) (al := [.slice Aa0 a0.length ca0, .int .i64 a1]) rfl (n := 31) rfl ?_
  refine sx_run 2 (todo' := [.inRegion (opsOf (cd29 [0])) [0, 1], .code (cd29 [1])]) (us := []) (by kernel_rfl) ?_
  refine r_box (c := (cd29 [0])) (i := 0) (d := (some 2)) (ty := 0) (x := (.tmp 0)) (v := .slice Aa0 a0.length ca0) (t := 23) (cs := [.slice Aa0 a0.length ca0]) hS0 (by kernel_rfl) (by kernel_rfl) (by kernel_rfl) (by kernel_rfl) ?_
  intro b1 w2 hS3
  refine sx_run 4 (todo' := [.inRegion (opsOf (cd29 [1, 0])) [0, 1, 2, 3, 4, 5], .code (cd29 [1, 1])]) (us := [(4, .int .i64 0)]) (by kernel_rfl) ?_
  refine r_load (c := (cd29 [1, 0])) (i := 0) (d := (some 7)) (ty := 23) (t := 23) (x := (.tmp 2)) (p := ⟨b1, 0, none⟩) (v := .slice Aa0 a0.length ca0) (by kernel_rfl) (by kernel_rfl) (by kernel_rfl) (loads_at 0 (hS3.blk 0 rfl) (by kernel_rfl) (by kernel_rfl)) ?_
  refine sx_run 1 (todo' := [.inRegion (opsOf (cd29 [1, 0])) [2, 3, 4, 5], .code (cd29 [1, 1])]) (us := [(8, .int .i64 a1)]) (by kernel_rfl) ?_
  obtain ⟨g5, hp6⟩ := ite_some hp0
  obtain ⟨b7, p8, hA9, hc10⟩ := ha0.atF g5.1 g5.2
  refine r_indexAddr (c := (cd29 [1, 0])) (i := 2) (d := (some 9)) (ty := 0) (t := 23) (e := 52) (n := a0.length) (cp := ca0) (sz := 6) (kk := .i64) (x := (.tmp 7)) (y := (.tmp 8)) (b := b7) (o' := p8) (j := a1) (by kernel_rfl) (by kernel_rfl) (slv (by kernel_rfl) hA9) (by kernel_rfl) (by kernel_rfl) (by kernel_rfl) g5.1 g5.2 ?_
  refine r_load (c := (cd29 [1, 0])) (i := 3) (d := (some 10)) (ty := 52) (t := 52) (x := (.tmp 9)) (p := ⟨b7, p8 + a1.toNat * 6, none⟩) (v := .agg (enc_api_Node (gt a0 a1)).toArray) (by kernel_rfl) (by kernel_rfl) (by kernel_rfl) (loads_agg (hc10.cells hS3) (by kernel_rfl) (by kernel_rfl)) ?_
  refine r_alloc (c := (cd29 [1, 0])) (i := 4) (d := (some 5)) (ty := 0) (z := .agg (enc_api_Node (⟨0, 0, 0, ⟨0, (⟨#[]⟩ : ByteArray)⟩, 0⟩ : api_Node)).toArray) (t := 52) (cs := enc_api_Node (⟨0, 0, 0, ⟨0, (⟨#[]⟩ : ByteArray)⟩, 0⟩ : api_Node)) hS3 (by kernel_rfl) (by kernel_rfl) (by kernel_rfl) (by kernel_rfl) ?_
  intro b11 w12 hS13
  refine r_store (c := (cd29 [1, 0])) (i := 5) (d := none) (ty := 0) (t := 52) (x := (.tmp 5)) (y := (.tmp 10)) (b := b11) (o := 0) (e := 52) (cs := enc_api_Node (⟨0, 0, 0, ⟨0, (⟨#[]⟩ : ByteArray)⟩, 0⟩ : api_Node)) (v := .agg (enc_api_Node (gt a0 a1)).toArray) (vs := enc_api_Node (gt a0 a1)) (cs' := enc_api_Node (gt a0 a1)) hS13 (by kernel_rfl) (by kernel_rfl) (by kernel_rfl) (by kernel_rfl) (by kernel_rfl) (by kernel_rfl) (one_api_Node _) (Nat.le_of_ble_eq_true (by kernel_rfl)) (by kernel_rfl) ?_
  intro w15 hS16
  refine sx_run 10 (todo' := [.inRegion (opsOf (cd29 [1, 1, 1, 0, 0])) [1], .code (cd29 [1, 1, 1, 0, 1]), .code (cd29 [1, 1, 1, 1])]) (us := [(11, .func (.func 37) #[] #[.pointer (some ⟨b1, 0, none⟩), .pointer (some ⟨b11, 0, none⟩)]), (6, .func (.func 37) #[] #[.pointer (some ⟨b1, 0, none⟩), .pointer (some ⟨b11, 0, none⟩)]), (12, .pointer (some ⟨b11, 0, none⟩))]) (by kernel_rfl) ?_
  refine r_load (c := (cd29 [1, 1, 1, 0, 0])) (i := 1) (d := (some 13)) (ty := 3) (t := 3) (x := (.tmp 12)) (p := ⟨b11, 0, none⟩) (v := .int .i64 ((gt a0 a1).Op)) (by kernel_rfl) (by kernel_rfl) (by kernel_rfl) (loads_at 0 (hS16.blk 0 rfl) (by kernel_rfl) (by kernel_rfl)) ?_
  refine sx_split 5 (todo' := [.inRegion (opsOf (cd29 [1, 1, 1, 0, 1, 0, 0])) [1], .code (cd29 [1, 1, 1, 0, 1, 0, 1]), .inBlock 0, .code (cd29 [1, 1, 1, 1])]) (us := []) (d := 15) (t := (((gt a0 a1).Op) == 3)) (by kernel_rfl) (fun h17 => ?_) (fun h18 => ?_)
  ·skip
   have hp19 := ite_t hp6 h17
   refine sx_run 7 (todo' := [.inRegion (opsOf (cd29 [1, 1, 1, 0, 1, 0, 1, 0, 0])) [2, 3, 4, 5], .code (cd29 [1, 1, 1, 0, 1, 0, 1, 0, 1]), .inBlock 0, .code (cd29 [1, 1, 1, 1])]) (us := [(14, .bool true), (16, .func (.func 37) #[] #[.pointer (some ⟨b1, 0, none⟩), .pointer (some ⟨b11, 0, none⟩)]), (17, .pointer (some ⟨b11, 1, none⟩))]) (by kernel_rfl) ?_
   refine r_load (c := (cd29 [1, 1, 1, 0, 1, 0, 1, 0, 0])) (i := 2) (d := (some 18)) (ty := 3) (t := 3) (x := (.tmp 17)) (p := ⟨b11, 1, none⟩) (v := .int .i64 ((gt a0 a1).A)) (by kernel_rfl) (by kernel_rfl) (by kernel_rfl) (loads_at 1 (hS16.blk 0 rfl) (by kernel_rfl) (by kernel_rfl)) ?_
   obtain ⟨t20, hr21, hp22⟩ := bind_some' hp19
   have hS24 := hS16.pick1
   refine r_call1 (c := (cd29 [1, 1, 1, 0, 1, 0, 1, 0, 0])) (i := 3) (d := (some 19)) (g := 37) (args := #[.int .i64 ((gt a0 a1).A), .bool false, .pointer (some ⟨b1, 0, none⟩), .pointer (some ⟨b11, 0, none⟩)]) (by kernel_rfl) (by kernel_rfl) (by kernel_rfl) (by kernel_rfl) (cond_deep_1_1.ok rec_cond_deep hrec_cond_deep ((gt a0 a1).A) false a0 (gt a0 a1) b1 Aa0 ca0 b11 hS24 ha0 hr21) ?_
   rintro _ w25 ⟨rfl, hS26⟩
   refine ⟨.int .i64 t20, rfl, ?_⟩
   refine sx_run 3 (todo' := [.code (cd29 [1, 1, 1, 0, 1, 0, 1, 0, 1]), .inBlock 0, .code (cd29 [1, 1, 1, 1])]) (us := [(20, .int .i64 (IntKind.i64.wrap (1 + t20))), (4, .int .i64 (IntKind.i64.wrap (1 + t20)))]) (by kernel_rfl) ?_
   have hS27 := hS26.drop
   have hS28 := hS27.drop
   refine runs_ret (fn := Try.f29) (v := .int .i64 (IntKind.i64.wrap (1 + t20))) Try.func29 (by kernel_rfl) ?_
   have hr29 := (Option.some.inj hp22)
   cases hr29
   exact hR _ _ ⟨rfl, hS28⟩
  ·skip
   have hp30 := ite_f hp6 h18
   obtain ⟨v31, hv32, hp33⟩ := bind_some' hp30
   have J37 : ∀ (t34 : Bool) (he39 : t34 = v31) (l38 : List Value) (w35 : World) (hS36 : St w0 Z (xblk b11 52 (enc_api_Node (gt a0 a1)) :: xblk b1 23 ([.slice Aa0 a0.length ca0]) :: fs) w35), Runs Try.prog 29 [.code (cd29 [1, 1, 1, 0, 1, 0, 1, 1, 1]), .inBlock 0, .code (cd29 [1, 1, 1, 1])] (fill [none, none, none, none, none, some (.pointer (some ⟨b11, 0, none⟩)), some (.func (.func 37) #[] #[.pointer (some ⟨b1, 0, none⟩), .pointer (some ⟨b11, 0, none⟩)]), none, none, none, none, none, none, none, none, none, none, none, none, none, none, some (.bool t34), none, none, none, none, none, none, none, none, none, none, none] l38) w35 R := by
    intro t34 he39 l38 w35 hS36
    subst he39
    try dsimp only at hp33
    cases t34
    ·skip
     have hp40 := ite_f hp33 rfl
     refine sx_run 7 (todo' := [.code (cd29 [1, 1, 1, 1, 1])]) (us := [(4, .int .i64 0)]) (by kernel_rfl) ?_
     have hS41 := hS36.drop
     have hS42 := hS41.drop
     refine runs_ret (fn := Try.f29) (v := .int .i64 0) Try.func29 (by kernel_rfl) ?_
     have hr43 := (Option.some.inj hp40)
     cases hr43
     exact hR _ _ ⟨rfl, hS42⟩
    ·skip
     have hp44 := ite_t hp33 rfl
     refine sx_run 2 (todo' := [.code (cd29 [1, 1, 1, 0, 1, 0, 1, 1, 1, 0, 0]), .code (cd29 [1, 1, 1, 0, 1, 0, 1, 1, 1, 0, 1]), .inBlock 0, .code (cd29 [1, 1, 1, 1])]) (us := []) (by kernel_rfl) ?_
     obtain ⟨t45, hr46, hp47⟩ := bind_some' hp44
     obtain ⟨t53, hr54, hp55⟩ := bind_some' hp47
     refine r_drawnP (S := Option Unit × Option Unit) (dn := (fun (st : Option Unit × Option Unit) k => [st.1.isSome, st.2.isSome].getD k true)) (C := (fun st w' => match st with | (none, none) => St w0 Z (xblk b11 52 (enc_api_Node (gt a0 a1)) :: xblk b1 23 ([.slice Aa0 a0.length ca0]) :: fs) w' | (none, some x56) => False | (some x48, none) => St w0 Z (xblk b11 52 (enc_api_Node (gt a0 a1)) :: xblk b1 23 ([.slice Aa0 a0.length ca0]) :: fs) w' | (some x48, some x56) => St w0 Z (xblk b11 52 (enc_api_Node (gt a0 a1)) :: xblk b1 23 ([.slice Aa0 a0.length ca0]) :: fs) w')) (v := (fun st => match st with | (none, none) => [.func (.func 37) #[] #[.pointer (some ⟨b1, 0, none⟩), .pointer (some ⟨b11, 0, none⟩)], .pointer (some ⟨b11, 1, none⟩), .int .i64 ((gt a0 a1).A), undef, .func (.func 37) #[] #[.pointer (some ⟨b1, 0, none⟩), .pointer (some ⟨b11, 0, none⟩)], .pointer (some ⟨b11, 2, none⟩), .int .i64 ((gt a0 a1).B), undef, undef, undef] | (none, some x56) => [.func (.func 37) #[] #[.pointer (some ⟨b1, 0, none⟩), .pointer (some ⟨b11, 0, none⟩)], .pointer (some ⟨b11, 1, none⟩), .int .i64 ((gt a0 a1).A), undef, .func (.func 37) #[] #[.pointer (some ⟨b1, 0, none⟩), .pointer (some ⟨b11, 0, none⟩)], .pointer (some ⟨b11, 2, none⟩), .int .i64 ((gt a0 a1).B), undef, undef, undef] | (some x48, none) => [.func (.func 37) #[] #[.pointer (some ⟨b1, 0, none⟩), .pointer (some ⟨b11, 0, none⟩)], .pointer (some ⟨b11, 1, none⟩), .int .i64 ((gt a0 a1).A), .int .i64 t45, .func (.func 37) #[] #[.pointer (some ⟨b1, 0, none⟩), .pointer (some ⟨b11, 0, none⟩)], .pointer (some ⟨b11, 2, none⟩), .int .i64 ((gt a0 a1).B), undef, undef, undef] | (some x48, some x56) => [.func (.func 37) #[] #[.pointer (some ⟨b1, 0, none⟩), .pointer (some ⟨b11, 0, none⟩)], .pointer (some ⟨b11, 1, none⟩), .int .i64 ((gt a0 a1).A), .int .i64 t45, .func (.func 37) #[] #[.pointer (some ⟨b1, 0, none⟩), .pointer (some ⟨b11, 0, none⟩)], .pointer (some ⟨b11, 2, none⟩), .int .i64 ((gt a0 a1).B), .int .i64 t53, .int .i64 (bmax t45 t53), .int .i64 (bmax t45 t53)])) (c := (cd29 [1, 1, 1, 0, 1, 0, 1, 1, 1, 0, 0])) (id := 8) (none, none) 0 10 [3, 7] [[], [], [], [], [], [], [], [0], [0, 1], [0, 1]] [[0], [], [0], [1], [1], [], [1], [], [], []] [] [true, true, true, true, true, true, true, true, true, true] (by kernel_rfl) (by kernel_rfl) (by kernel_rfl) (by kernel_rfl) (by kernel_rfl) (by kernel_rfl) (by kernel_rfl) (by kernel_rfl) (by kernel_rfl) (fun k hk => match k, hk with | 0, _ => rfl | 1, _ => rfl | k + 2, hk => absurd hk (by simp)) hS36.drew ?_ (fun k hk => match k, hk with | 0, _ => rfl | 1, _ => rfl | k + 2, hk => absurd hk (by simp)) ?_ ?_ ?_
     ·intro i hi st w hC hd
      match i, hi with
      | 0, _ => (show _ = _; kernel_rfl)
      | 1, _ => (show _ = _; kernel_rfl)
      | 2, _ => (show _ = _; kernel_rfl)
      | 3, _ => (show _ = _; kernel_rfl)
      | 4, _ => (show _ = _; kernel_rfl)
      | 5, _ => (show _ = _; kernel_rfl)
      | 6, _ => (show _ = _; kernel_rfl)
      | 7, _ => (show _ = _; kernel_rfl)
      | 8, _ => (show _ = _; kernel_rfl)
      | 9, _ => (show _ = _; kernel_rfl)
      | i + 10, hi => exact absurd hi (by omega)
     ·intro i hi he st w hC hd hu
      match i, hi, he with
      | 0, _, _ =>
       rcases st with ⟨_ | x48, _ | x56⟩
       ·replace hC : St w0 Z (xblk b11 52 (enc_api_Node (gt a0 a1)) :: xblk b1 23 ([.slice Aa0 a0.length ca0]) :: fs) w := hC
        exact ⟨fun _ => does_pure (v := .func (.func 37) #[] #[.pointer (some ⟨b1, 0, none⟩), .pointer (some ⟨b11, 0, none⟩)]) (by kernel_rfl) rfl hC, fun h => absurd h (by decide)⟩
       ·exact False.elim hC
       ·exact Bool.noConfusion (hu 0 (by decide))
       ·exact Bool.noConfusion (hu 0 (by decide))
      | 1, _, _ =>
       rcases st with ⟨_ | x48, _ | x56⟩
       ·replace hC : St w0 Z (xblk b11 52 (enc_api_Node (gt a0 a1)) :: xblk b1 23 ([.slice Aa0 a0.length ca0]) :: fs) w := hC
        exact ⟨fun _ => does_pure (v := .pointer (some ⟨b11, 1, none⟩)) (by kernel_rfl) rfl hC, fun h => absurd h (by decide)⟩
       ·exact False.elim hC
       ·replace hC : St w0 Z (xblk b11 52 (enc_api_Node (gt a0 a1)) :: xblk b1 23 ([.slice Aa0 a0.length ca0]) :: fs) w := hC
        exact ⟨fun _ => does_pure (v := .pointer (some ⟨b11, 1, none⟩)) (by kernel_rfl) rfl hC, fun h => absurd h (by decide)⟩
       ·replace hC : St w0 Z (xblk b11 52 (enc_api_Node (gt a0 a1)) :: xblk b1 23 ([.slice Aa0 a0.length ca0]) :: fs) w := hC
        exact ⟨fun _ => does_pure (v := .pointer (some ⟨b11, 1, none⟩)) (by kernel_rfl) rfl hC, fun h => absurd h (by decide)⟩
      | 2, _, _ =>
       rcases st with ⟨_ | x48, _ | x56⟩
       ·replace hC : St w0 Z (xblk b11 52 (enc_api_Node (gt a0 a1)) :: xblk b1 23 ([.slice Aa0 a0.length ca0]) :: fs) w := hC
        exact ⟨fun _ => does_run (x_load (t := 3) (x := (.tmp 25)) (p := ⟨b11, 1, none⟩) (v := .int .i64 ((gt a0 a1).A)) (by kernel_rfl) (loads_at 1 (hC.blk 0 rfl) (by kernel_rfl) (by kernel_rfl)) (by kernel_rfl)) rfl hC, fun h => absurd h (by decide)⟩
       ·exact False.elim hC
       ·exact Bool.noConfusion (hu 0 (by decide))
       ·exact Bool.noConfusion (hu 0 (by decide))
      | 3, _, he => exact absurd he (by decide)
      | 4, _, _ =>
       rcases st with ⟨_ | x48, _ | x56⟩
       ·replace hC : St w0 Z (xblk b11 52 (enc_api_Node (gt a0 a1)) :: xblk b1 23 ([.slice Aa0 a0.length ca0]) :: fs) w := hC
        exact ⟨fun _ => does_pure (v := .func (.func 37) #[] #[.pointer (some ⟨b1, 0, none⟩), .pointer (some ⟨b11, 0, none⟩)]) (by kernel_rfl) rfl hC, fun h => absurd h (by decide)⟩
       ·exact False.elim hC
       ·replace hC : St w0 Z (xblk b11 52 (enc_api_Node (gt a0 a1)) :: xblk b1 23 ([.slice Aa0 a0.length ca0]) :: fs) w := hC
        exact ⟨fun _ => does_pure (v := .func (.func 37) #[] #[.pointer (some ⟨b1, 0, none⟩), .pointer (some ⟨b11, 0, none⟩)]) (by kernel_rfl) rfl hC, fun h => absurd h (by decide)⟩
       ·exact Bool.noConfusion (hu 1 (by decide))
      | 5, _, _ =>
       rcases st with ⟨_ | x48, _ | x56⟩
       ·replace hC : St w0 Z (xblk b11 52 (enc_api_Node (gt a0 a1)) :: xblk b1 23 ([.slice Aa0 a0.length ca0]) :: fs) w := hC
        exact ⟨fun _ => does_pure (v := .pointer (some ⟨b11, 2, none⟩)) (by kernel_rfl) rfl hC, fun h => absurd h (by decide)⟩
       ·exact False.elim hC
       ·replace hC : St w0 Z (xblk b11 52 (enc_api_Node (gt a0 a1)) :: xblk b1 23 ([.slice Aa0 a0.length ca0]) :: fs) w := hC
        exact ⟨fun _ => does_pure (v := .pointer (some ⟨b11, 2, none⟩)) (by kernel_rfl) rfl hC, fun h => absurd h (by decide)⟩
       ·replace hC : St w0 Z (xblk b11 52 (enc_api_Node (gt a0 a1)) :: xblk b1 23 ([.slice Aa0 a0.length ca0]) :: fs) w := hC
        exact ⟨fun _ => does_pure (v := .pointer (some ⟨b11, 2, none⟩)) (by kernel_rfl) rfl hC, fun h => absurd h (by decide)⟩
      | 6, _, _ =>
       rcases st with ⟨_ | x48, _ | x56⟩
       ·replace hC : St w0 Z (xblk b11 52 (enc_api_Node (gt a0 a1)) :: xblk b1 23 ([.slice Aa0 a0.length ca0]) :: fs) w := hC
        exact ⟨fun _ => does_run (x_load (t := 3) (x := (.tmp 29)) (p := ⟨b11, 2, none⟩) (v := .int .i64 ((gt a0 a1).B)) (by kernel_rfl) (loads_at 2 (hC.blk 0 rfl) (by kernel_rfl) (by kernel_rfl)) (by kernel_rfl)) rfl hC, fun h => absurd h (by decide)⟩
       ·exact False.elim hC
       ·replace hC : St w0 Z (xblk b11 52 (enc_api_Node (gt a0 a1)) :: xblk b1 23 ([.slice Aa0 a0.length ca0]) :: fs) w := hC
        exact ⟨fun _ => does_run (x_load (t := 3) (x := (.tmp 29)) (p := ⟨b11, 2, none⟩) (v := .int .i64 ((gt a0 a1).B)) (by kernel_rfl) (loads_at 2 (hC.blk 0 rfl) (by kernel_rfl) (by kernel_rfl)) (by kernel_rfl)) rfl hC, fun h => absurd h (by decide)⟩
       ·exact Bool.noConfusion (hu 1 (by decide))
      | 7, _, he => exact absurd he (by decide)
      | 8, _, _ =>
       rcases st with ⟨_ | x48, _ | x56⟩
       ·exact Bool.noConfusion (hd 0 (by decide))
       ·exact False.elim hC
       ·exact Bool.noConfusion (hd 1 (by decide))
       ·replace hC : St w0 Z (xblk b11 52 (enc_api_Node (gt a0 a1)) :: xblk b1 23 ([.slice Aa0 a0.length ca0]) :: fs) w := hC
        exact ⟨fun _ => does_pure (v := .int .i64 (bmax t45 t53)) (by kernel_rfl) rfl hC, fun h => absurd h (by decide)⟩
      | 9, _, _ =>
       rcases st with ⟨_ | x48, _ | x56⟩
       ·exact Bool.noConfusion (hd 0 (by decide))
       ·exact False.elim hC
       ·exact Bool.noConfusion (hd 1 (by decide))
       ·replace hC : St w0 Z (xblk b11 52 (enc_api_Node (gt a0 a1)) :: xblk b1 23 ([.slice Aa0 a0.length ca0]) :: fs) w := hC
        exact ⟨fun _ => does_pure (v := .int .i64 (bmax t45 t53)) (by kernel_rfl) rfl hC, fun h => absurd h (by decide)⟩
      | i + 10, hi, _ => exact absurd hi (by omega)
     ·intro k hk st w hC hr hm
      match k, hk with
      | 0, _ =>
       rcases st with ⟨_ | x48, _ | x56⟩
       ·replace hC : St w0 Z (xblk b11 52 (enc_api_Node (gt a0 a1)) :: xblk b1 23 ([.slice Aa0 a0.length ca0]) :: fs) w := hC
        have hS61 := hC.pick1
        refine does_call (g := 37) (args := #[.int .i64 ((gt a0 a1).A), .bool false, .pointer (some ⟨b1, 0, none⟩), .pointer (some ⟨b11, 0, none⟩)]) (by kernel_rfl) (cond_deep_1_1.ok rec_cond_deep hrec_cond_deep ((gt a0 a1).A) false a0 (gt a0 a1) b1 Aa0 ca0 b11 hS61 ha0 hr46) ?_
        rintro e w2 ⟨rfl, h2⟩
        refine ⟨_, rfl, ?_⟩
        have hS62 := h2.pick1
        have h2 := hS62
        have h2 := h2.pick1
        have h2 := h2.pick1
        refine ⟨(some (), none), rfl, ?_, ?_, .inr rfl, h2⟩
        ·intro m hne; match m, hne with
         | 0, hne => exact absurd rfl hne
         | 1, hne => exact rfl
         | m + 2, _ => exact rfl
        ·intro j hj; match j, hj with
         | 0, hj => exact rfl
         | 1, hj => exact rfl
         | 2, hj => exact rfl
         | 3, hj => exact absurd (by decide) hj
         | 4, hj => exact rfl
         | 5, hj => exact rfl
         | 6, hj => exact rfl
         | 7, hj => exact absurd (by decide) hj
         | 8, hj => exact absurd (by decide) hj
         | 9, hj => exact absurd (by decide) hj
         | j + 10, _ => exact rfl
       ·exact False.elim hC
       ·exact Bool.noConfusion hr
       ·exact Bool.noConfusion hr
      | 1, _ =>
       rcases st with ⟨_ | x48, _ | x56⟩
       ·exact Bool.noConfusion (hm 0 (by decide))
       ·exact False.elim hC
       ·replace hC : St w0 Z (xblk b11 52 (enc_api_Node (gt a0 a1)) :: xblk b1 23 ([.slice Aa0 a0.length ca0]) :: fs) w := hC
        have hS63 := hC.pick1
        refine does_call (g := 37) (args := #[.int .i64 ((gt a0 a1).B), .bool true, .pointer (some ⟨b1, 0, none⟩), .pointer (some ⟨b11, 0, none⟩)]) (by kernel_rfl) (cond_deep_1_1.ok rec_cond_deep hrec_cond_deep ((gt a0 a1).B) true a0 (gt a0 a1) b1 Aa0 ca0 b11 hS63 ha0 hr54) ?_
        rintro e w2 ⟨rfl, h2⟩
        refine ⟨_, rfl, ?_⟩
        have hS64 := h2.pick1
        have h2 := hS64
        have h2 := h2.pick1
        have h2 := h2.pick1
        refine ⟨(some (), some ()), rfl, ?_, ?_, .inr rfl, h2⟩
        ·intro m hne; match m, hne with
         | 0, hne => exact rfl
         | 1, hne => exact absurd rfl hne
         | m + 2, _ => exact rfl
        ·intro j hj; match j, hj with
         | 0, hj => exact rfl
         | 1, hj => exact rfl
         | 2, hj => exact rfl
         | 3, hj => exact rfl
         | 4, hj => exact rfl
         | 5, hj => exact rfl
         | 6, hj => exact rfl
         | 7, hj => exact absurd (by decide) hj
         | 8, hj => exact absurd (by decide) hj
         | 9, hj => exact absurd (by decide) hj
         | j + 10, _ => exact rfl
       ·exact Bool.noConfusion hr
      | k + 2, hk => exact absurd hk (by simp)
     intro st68 w65 hS66 hr67
     rcases st68 with ⟨_ | x48, _ | x56⟩
     ·exact Bool.noConfusion (hr67 0 (Nat.lt_of_sub_eq_succ rfl))
     ·exact Bool.noConfusion (hr67 0 (Nat.lt_of_sub_eq_succ rfl))
     ·exact Bool.noConfusion (hr67 1 (Nat.lt_of_sub_eq_succ rfl))
     replace hS66 : St w0 Z (xblk b11 52 (enc_api_Node (gt a0 a1)) :: xblk b1 23 ([.slice Aa0 a0.length ca0]) :: fs) w65 := hS66
     have hS69 := hS66.drop
     have hS70 := hS69.drop
     refine runs_ret (fn := Try.f29) (v := .int .i64 (bmax t45 t53)) Try.func29 (by kernel_rfl) ?_
     have hr71 := (Option.some.inj hp55)
     cases hr71
     exact hR _ _ ⟨rfl, hS70⟩
   refine sx_split 7 (todo' := [.inRegion (opsOf (cd29 [1, 1, 1, 0, 1, 0, 1, 1, 0, 0])) [1], .code (cd29 [1, 1, 1, 0, 1, 0, 1, 1, 0, 1]), .code (cd29 [1, 1, 1, 0, 1, 0, 1, 1, 1]), .inBlock 0, .code (cd29 [1, 1, 1, 1])]) (us := [(14, .bool false)]) (d := 22) (t := (((gt a0 a1).Op) == 4)) (by kernel_rfl) (fun h72 => ?_) (fun h73 => ?_)
   ·skip
    have hp74 := ite_t hv32 h72
    refine sx_run 4 (todo' := [.code (cd29 [1, 1, 1, 0, 1, 0, 1, 1, 1]), .inBlock 0, .code (cd29 [1, 1, 1, 1])]) (us := [(21, .bool true)]) (by kernel_rfl) ?_
    refine Runs.fill (m := [none, none, none, none, none, some (.pointer (some ⟨b11, 0, none⟩)), some (.func (.func 37) #[] #[.pointer (some ⟨b1, 0, none⟩), .pointer (some ⟨b11, 0, none⟩)]), none, none, none, none, none, none, none, none, none, none, none, none, none, none, some (.bool true), none, none, none, none, none, none, none, none, none, none, none]) (by kernel_rfl) ?_
    exact J37 true (Option.some.inj hp74) _ _ hS16
   ·skip
    have hp75 := ite_f hv32 h73
    refine sx_split 5 (todo' := [.inRegion (opsOf (cd29 [1, 1, 1, 0, 1, 0, 1, 1, 0, 1, 1])) [1], .code (cd29 [1, 1, 1, 0, 1, 0, 1, 1, 1]), .inBlock 0, .code (cd29 [1, 1, 1, 1])]) (us := [(21, .bool false)]) (d := 23) (t := (((gt a0 a1).Op) == 5)) (by kernel_rfl) (fun h76 => ?_) (fun h77 => ?_)
    ·skip
     have hp78 := ite_t hp75 h76
     refine sx_run 2 (todo' := [.code (cd29 [1, 1, 1, 0, 1, 0, 1, 1, 1]), .inBlock 0, .code (cd29 [1, 1, 1, 1])]) (us := [(21, .bool true)]) (by kernel_rfl) ?_
     refine Runs.fill (m := [none, none, none, none, none, some (.pointer (some ⟨b11, 0, none⟩)), some (.func (.func 37) #[] #[.pointer (some ⟨b1, 0, none⟩), .pointer (some ⟨b11, 0, none⟩)]), none, none, none, none, none, none, none, none, none, none, none, none, none, none, some (.bool true), none, none, none, none, none, none, none, none, none, none, none]) (by kernel_rfl) ?_
     exact J37 true (Option.some.inj hp78) _ _ hS16
    ·skip
     have hp79 := ite_f hp75 h77
     refine sx_run 2 (todo' := [.code (cd29 [1, 1, 1, 0, 1, 0, 1, 1, 1]), .inBlock 0, .code (cd29 [1, 1, 1, 1])]) (us := [(21, .bool false)]) (by kernel_rfl) ?_
     refine Runs.fill (m := [none, none, none, none, none, some (.pointer (some ⟨b11, 0, none⟩)), some (.func (.func 37) #[] #[.pointer (some ⟨b1, 0, none⟩), .pointer (some ⟨b11, 0, none⟩)]), none, none, none, none, none, none, none, none, none, none, none, none, none, none, some (.bool false), none, none, none, none, none, none, none, none, none, none, none]) (by kernel_rfl) ?_
     exact J37 false (Option.some.inj hp79) _ _ hS16
def cond_deep.f : Nat → (List api_Node) → Int → Option Int
  | 0 => fun _ _ => none
  | n + 1 => cond_deep.body (cond_deep.f n)
theorem cond_deep.all : ∀ n, cond_deep.Spec (cond_deep.f n)
  | 0 => by
    intro a0 a1 Aa0 ca0 w0 Z fs w hS0 ha0 q0 hp0
    cases hp0
  | n + 1 => cond_deep.bok (cond_deep.f n) (cond_deep.all n)
theorem cond_deep.ok : cond_deep.Spec (cond_deep.f fuelN) := cond_deep.all fuelN

noncomputable def cd19 (p : List Nat) : Code := sub (bodyOf Try.f19) p
def cond_Check.f (a0 : List api_Node) : Option Int :=
  (cond_makes.f a0 >>= (fun t1 => (if (!t1) = true then some (60) else (cond_deep.f fuelN a0 (IntKind.i64.wrap ((a0.length : Int) - 1)) >>= (fun t11 => (if (decide (t11 > 64)) = true then some (2) else some (0)))))))
set_option maxHeartbeats 16000000 in
theorem cond_Check.ok (a0 : List api_Node) (Aa0 : Option Addr) (ca0 : Nat) {w0 : World} {Z : Zm} {fs : List XObj} {w : World} (hS0 : St w0 Z (fs) w) (ha0 : SlZ (flat enc_api_Node) 6 Z Aa0 ca0 a0) {q0 : Int} (hp0 : cond_Check.f a0 = some q0) :
    Calls Try.prog 19 #[.slice Aa0 a0.length ca0] w (fun e w' => e = .returned (.int .i64 q0) ∧ St w0 Z (fs) w') := by
  refine calls_abs ?_; intro R hR
  unfold cond_Check.f at hp0
  refine calls_of_runs (fn := Try.f19) (c := cd19 []) Try.func19 (by kernel_rfl) (al := [.slice Aa0 a0.length ca0]) rfl (n := 11) rfl ?_
  refine sx_run 8 (todo' := [.inRegion (opsOf (cd19 [1, 0, 0])) [1, 2], .code (cd19 [1, 0, 1]), .code (cd19 [1, 1])]) (us := [(2, .int .i64 0), (3, .slice Aa0 a0.length ca0)]) (by kernel_rfl) ?_
  obtain ⟨t1, hr2, hp3⟩ := bind_some' hp0
  refine r_call1 (c := (cd19 [1, 0, 0])) (i := 1) (d := (some 4)) (g := 28) (args := #[.slice Aa0 a0.length ca0]) (by kernel_rfl) (by kernel_rfl) (by kernel_rfl) (by kernel_rfl) (cond_makes.ok a0 Aa0 ca0 hS0 ha0 hr2) ?_
  rintro _ w4 ⟨rfl, hS5⟩
  refine ⟨.bool t1, rfl, ?_⟩
  refine sx_split 1 (todo' := [.inRegion (opsOf (cd19 [1, 0, 0])) [], .code (cd19 [1, 0, 1]), .code (cd19 [1, 1])]) (us := []) (d := 5) (t := (!t1)) (by kernel_rfl) (fun h6 => ?_) (fun h7 => ?_)
  ·skip
   have hp8 := ite_t hp3 h6
   refine sx_run 6 (todo' := [.code (cd19 [1, 0, 1, 0, 1]), .code (cd19 [1, 1])]) (us := [(2, .int .i64 60)]) (by kernel_rfl) ?_
   refine runs_ret (fn := Try.f19) (v := .int .i64 60) Try.func19 (by kernel_rfl) ?_
   have hr9 := (Option.some.inj hp8)
   cases hr9
   exact hR _ _ ⟨rfl, hS5⟩
  ·skip
   have hp10 := ite_f hp3 h7
   refine sx_run 10 (todo' := [.inRegion (opsOf (cd19 [1, 1, 0, 0])) [4, 5], .code (cd19 [1, 1, 0, 1]), .code (cd19 [1, 1, 1])]) (us := [(6, .slice Aa0 a0.length ca0), (7, .slice Aa0 a0.length ca0), (8, .int .i64 (a0.length : Int)), (9, .int .i64 (IntKind.i64.wrap ((a0.length : Int) - 1)))]) (by kernel_rfl) ?_
   obtain ⟨t11, hr12, hp13⟩ := bind_some' hp10
   refine r_call1 (c := (cd19 [1, 1, 0, 0])) (i := 4) (d := (some 10)) (g := 29) (args := #[.slice Aa0 a0.length ca0, .int .i64 (IntKind.i64.wrap ((a0.length : Int) - 1))]) (by kernel_rfl) (by kernel_rfl) (by kernel_rfl) (by kernel_rfl) (cond_deep.ok a0 (IntKind.i64.wrap ((a0.length : Int) - 1)) Aa0 ca0 hS5 ha0 hr12) ?_
   rintro _ w14 ⟨rfl, hS15⟩
   refine ⟨.int .i64 t11, rfl, ?_⟩
   refine sx_split 1 (todo' := [.inRegion (opsOf (cd19 [1, 1, 0, 0])) [], .code (cd19 [1, 1, 0, 1]), .code (cd19 [1, 1, 1])]) (us := []) (d := 11) (t := (decide (t11 > 64))) (by kernel_rfl) (fun h16 => ?_) (fun h17 => ?_)
   ·skip
    have hp18 := ite_t hp13 h16
    refine sx_run 6 (todo' := [.code (cd19 [1, 1, 0, 1, 0, 1]), .code (cd19 [1, 1, 1])]) (us := [(2, .int .i64 2)]) (by kernel_rfl) ?_
    refine runs_ret (fn := Try.f19) (v := .int .i64 2) Try.func19 (by kernel_rfl) ?_
    have hr19 := (Option.some.inj hp18)
    cases hr19
    exact hR _ _ ⟨rfl, hS15⟩
   ·skip
    have hp20 := ite_f hp13 h17
    refine sx_run 7 (todo' := [.code (cd19 [1, 1, 1, 1])]) (us := [(2, .int .i64 0)]) (by kernel_rfl) ?_
    refine runs_ret (fn := Try.f19) (v := .int .i64 0) Try.func19 (by kernel_rfl) ?_
    have hr21 := (Option.some.inj hp20)
    cases hr21
    exact hR _ _ ⟨rfl, hS15⟩

noncomputable def cd24 (p : List Nat) : Code := sub (bodyOf Try.f24) p
def cond_below.f (a0 : api_Ref) (a1 : api_Ref) : Option Int :=
  (((if (decide (a0.Thread < 0)) = true then (if (decide (a1.Thread < 0)) = true then (if (a0.Thread != a1.Thread) = true then some (.inr ((IntKind.i64.wrap (a0.Thread - a1.Thread)))) else some (.inl ())) else (if (decide (a0.Thread < 0)) = true then some (.inr (1)) else some (.inr ((-1))))) else (if (decide (a1.Thread < 0)) = true then (if (decide (a0.Thread < 0)) = true then some (.inr (1)) else some (.inr ((-1)))) else (if (a0.Thread != a1.Thread) = true then some (.inr ((IntKind.i64.wrap (a0.Thread - a1.Thread)))) else some (.inl ())))) : Option (Sum Unit Int)) >>= (fun | .inl () => (strings_Compare.f a0.Name a1.Name >>= (fun t20 => some (t20))) | .inr e => some e))
set_option maxHeartbeats 16000000 in
theorem cond_below.ok (a0 : api_Ref) (a1 : api_Ref) {w0 : World} {Z : Zm} {fs : List XObj} {w : World} (hS0 : St w0 Z (fs) w) {q0 : Int} (hp0 : cond_below.f a0 a1 = some q0) :
    Calls Try.prog 24 #[.agg (enc_api_Ref a0).toArray, .agg (enc_api_Ref a1).toArray] w (fun e w' => e = .returned (.int .i64 q0) ∧ St w0 Z (fs) w') := by
  refine calls_abs ?_; intro R hR
  unfold cond_below.f at hp0
  refine calls_of_runs (fn := Try.f24) (c := cd24 []) Try.func24 (by kernel_rfl) (al := [.agg (enc_api_Ref a0).toArray, .agg (enc_api_Ref a1).toArray]) rfl (n := 29) rfl ?_
  refine sx_run 2 (todo' := [.inRegion (opsOf (cd24 [0])) [0, 1, 2], .code (cd24 [1])]) (us := []) (by kernel_rfl) ?_
  refine r_box (c := (cd24 [0])) (i := 0) (d := (some 2)) (ty := 0) (x := (.tmp 0)) (v := .agg (enc_api_Ref a0).toArray) (t := 46) (cs := enc_api_Ref a0) hS0 (by kernel_rfl) (by kernel_rfl) (by kernel_rfl) (by kernel_rfl) ?_
  intro b1 w2 hS3
  refine r_box (c := (cd24 [0])) (i := 1) (d := (some 3)) (ty := 0) (x := (.tmp 1)) (v := .agg (enc_api_Ref a1).toArray) (t := 46) (cs := enc_api_Ref a1) hS3 (by kernel_rfl) (by kernel_rfl) (by kernel_rfl) (by kernel_rfl) ?_
  intro b5 w6 hS7
  refine sx_run 3 (todo' := [.code (cd24 [1, 0]), .code (cd24 [1, 1])]) (us := [(4, .int .i64 0)]) (by kernel_rfl) ?_
  refine r_quiet hS7 (c := (cd24 [1, 0])) (id := 1) (by kernel_rfl) (by kernel_rfl) (by kernel_rfl) (is := [0, 1, 2, 3, 4, 5]) (by kernel_rfl) ?_
  refine q_run 1 (is' := [1, 2, 3, 4, 5]) (us := [(7, .pointer (some ⟨b1, 0, none⟩))]) (by kernel_rfl) ?_
  refine q_load (c := (cd24 [1, 0])) (i := 1) (d := (some 8)) (ty := 3) (t := 3) (x := (.tmp 7)) (p := ⟨b1, 0, none⟩) (v := .int .i64 a0.Thread) (by kernel_rfl) (by kernel_rfl) (by kernel_rfl) (fun w hC => (loads_at 0 (hC.blk 1 rfl) (by kernel_rfl) (by kernel_rfl))) ?_
  refine q_run 1 (is' := [3, 4, 5]) (us := [(9, .pointer (some ⟨b5, 0, none⟩))]) (by kernel_rfl) ?_
  refine q_load (c := (cd24 [1, 0])) (i := 3) (d := (some 10)) (ty := 3) (t := 3) (x := (.tmp 9)) (p := ⟨b5, 0, none⟩) (v := .int .i64 a1.Thread) (by kernel_rfl) (by kernel_rfl) (by kernel_rfl) (fun w hC => (loads_at 0 (hC.blk 0 rfl) (by kernel_rfl) (by kernel_rfl))) ?_
  refine q_run 2 (is' := []) (us := [(5, .int .i64 a0.Thread), (6, .int .i64 a1.Thread)]) (by kernel_rfl) ?_
  refine Qs.nil ?_
  intro w9 hS10
  obtain ⟨v11, hv12, hp13⟩ := bind_some' hp0
  have hq16 : ∀ x, Sum.inr x = v11 → x = q0 := by intro x hx; subst hx; simpa using hp13
  have J17 : ∀ (he19 : Sum.inl () = v11) (l18 : List Value) (w14 : World) (hS15 : St w0 Z (xblk b1 46 (enc_api_Ref a0) :: xblk b5 46 (enc_api_Ref a1) :: fs) w14), Runs Try.prog 24 [.code (cd24 [1, 1, 1])] (fill [none, none, some (.pointer (some ⟨b1, 0, none⟩)), some (.pointer (some ⟨b5, 0, none⟩)), none, none, none, none, none, none, none, none, none, none, none, none, none, none, none, none, none, none, none, none, none, none, none, none, none, none, none] l18) w14 R := by
   intro he19 l18 w14 hS15
   subst he19
   try dsimp only at hp13
   refine sx_run 3 (todo' := [.inRegion (opsOf (cd24 [1, 1, 1, 0])) [1, 2, 3, 4, 5], .code (cd24 [1, 1, 1, 1])]) (us := [(26, .pointer (some ⟨b1, 1, none⟩))]) (by kernel_rfl) ?_
   refine r_load (c := (cd24 [1, 1, 1, 0])) (i := 1) (d := (some 27)) (ty := 9) (t := 9) (x := (.tmp 26)) (p := ⟨b1, 1, none⟩) (v := .string a0.Name) (by kernel_rfl) (by kernel_rfl) (by kernel_rfl) (loads_at 1 (hS15.blk 0 rfl) (by kernel_rfl) (by kernel_rfl)) ?_
   refine sx_run 1 (todo' := [.inRegion (opsOf (cd24 [1, 1, 1, 0])) [3, 4, 5], .code (cd24 [1, 1, 1, 1])]) (us := [(28, .pointer (some ⟨b5, 1, none⟩))]) (by kernel_rfl) ?_
   refine r_load (c := (cd24 [1, 1, 1, 0])) (i := 3) (d := (some 29)) (ty := 9) (t := 9) (x := (.tmp 28)) (p := ⟨b5, 1, none⟩) (v := .string a1.Name) (by kernel_rfl) (by kernel_rfl) (by kernel_rfl) (loads_at 1 (hS15.blk 1 rfl) (by kernel_rfl) (by kernel_rfl)) ?_
   obtain ⟨t20, hr21, hp22⟩ := bind_some' hp13
   refine r_call1 (c := (cd24 [1, 1, 1, 0])) (i := 4) (d := (some 30)) (g := 35) (args := #[.string a0.Name, .string a1.Name]) (by kernel_rfl) (by kernel_rfl) (by kernel_rfl) (by kernel_rfl) (strings_Compare.ok a0.Name a1.Name hS15 hr21) ?_
   rintro _ w23 ⟨rfl, hS24⟩
   refine ⟨.int .i64 t20, rfl, ?_⟩
   refine sx_run 2 (todo' := [.code (cd24 [1, 1, 1, 1])]) (us := [(4, .int .i64 t20)]) (by kernel_rfl) ?_
   have hS25 := hS24.drop
   have hS26 := hS25.drop
   refine runs_ret (fn := Try.f24) (v := .int .i64 t20) Try.func24 (by kernel_rfl) ?_
   have hr27 := (Option.some.inj hp22)
   cases hr27
   exact hR _ _ ⟨rfl, hS26⟩
  refine sx_split 6 (todo' := [.inRegion (opsOf (cd24 [1, 1, 0, 0, 0])) [2, 3, 4, 5], .code (cd24 [1, 1, 0, 0, 1]), .inBlock 0, .code (cd24 [1, 1, 1])]) (us := [(12, .int .i64 a0.Thread)]) (d := 13) (t := (decide (a0.Thread < 0))) (by kernel_rfl) (fun h28 => ?_) (fun h29 => ?_)
  ·skip
   have hp30 := ite_t hv12 h28
   refine sx_split 2 (todo' := [.inRegion (opsOf (cd24 [1, 1, 0, 0, 0])) [4, 5], .code (cd24 [1, 1, 0, 0, 1]), .inBlock 0, .code (cd24 [1, 1, 1])]) (us := [(14, .int .i64 a1.Thread)]) (d := 15) (t := (decide (a1.Thread < 0))) (by kernel_rfl) (fun h31 => ?_) (fun h32 => ?_)
   ·skip
    have hp33 := ite_t hp30 h31
    refine sx_split 9 (todo' := [.inRegion (opsOf (cd24 [1, 1, 0, 0, 1, 1, 0])) [3], .code (cd24 [1, 1, 0, 0, 1, 1, 1]), .inBlock 0, .code (cd24 [1, 1, 1])]) (us := [(16, .bool false), (11, .bool false), (20, .int .i64 a0.Thread), (21, .int .i64 a1.Thread)]) (d := 22) (t := (a0.Thread != a1.Thread)) (by kernel_rfl) (fun h34 => ?_) (fun h35 => ?_)
    ·skip
     have hp36 := ite_t hp33 h34
     refine sx_run 10 (todo' := [.code (cd24 [1, 1, 0, 0, 1, 1, 1, 0, 1]), .inBlock 0, .code (cd24 [1, 1, 1])]) (us := [(19, .bool true), (23, .int .i64 a0.Thread), (24, .int .i64 a1.Thread), (25, .int .i64 (IntKind.i64.wrap (a0.Thread - a1.Thread))), (4, .int .i64 (IntKind.i64.wrap (a0.Thread - a1.Thread)))]) (by kernel_rfl) ?_
     have hS37 := hS10.drop
     have hS38 := hS37.drop
     refine runs_ret (fn := Try.f24) (v := .int .i64 (IntKind.i64.wrap (a0.Thread - a1.Thread))) Try.func24 (by kernel_rfl) ?_
     have hr39 := (hq16 _ (Option.some.inj hp36))
     cases hr39
     exact hR _ _ ⟨rfl, hS38⟩
    ·skip
     have hp40 := ite_f hp33 h35
     refine sx_run 5 (todo' := [.code (cd24 [1, 1, 1])]) (us := [(19, .bool false)]) (by kernel_rfl) ?_
     have hS41 := hS10.pick1
     refine Runs.fill (m := [none, none, some (.pointer (some ⟨b1, 0, none⟩)), some (.pointer (some ⟨b5, 0, none⟩)), none, none, none, none, none, none, none, none, none, none, none, none, none, none, none, none, none, none, none, none, none, none, none, none, none, none, none]) (by kernel_rfl) ?_
     exact J17 (Option.some.inj hp40) _ _ hS41
   ·skip
    have hp42 := ite_f hp30 h32
    refine sx_split 9 (todo' := [.inRegion (opsOf (cd24 [1, 1, 0, 0, 1, 0, 0, 0])) [], .code (cd24 [1, 1, 0, 0, 1, 0, 0, 1]), .code (cd24 [1, 1, 0, 0, 1, 0, 1]), .inBlock 0, .code (cd24 [1, 1, 1])]) (us := [(16, .bool true), (11, .bool true), (17, .int .i64 a0.Thread)]) (d := 18) (t := (decide (a0.Thread < 0))) (by kernel_rfl) (fun h43 => ?_) (fun h44 => ?_)
    ·skip
     have hp45 := ite_t hp42 h43
     refine sx_run 6 (todo' := [.code (cd24 [1, 1, 0, 0, 1, 0, 0, 1, 0, 1]), .code (cd24 [1, 1, 0, 0, 1, 0, 1]), .inBlock 0, .code (cd24 [1, 1, 1])]) (us := [(4, .int .i64 1)]) (by kernel_rfl) ?_
     have hS46 := hS10.drop
     have hS47 := hS46.drop
     refine runs_ret (fn := Try.f24) (v := .int .i64 1) Try.func24 (by kernel_rfl) ?_
     have hr48 := (hq16 _ (Option.some.inj hp45))
     cases hr48
     exact hR _ _ ⟨rfl, hS47⟩
    ·skip
     have hp49 := ite_f hp42 h44
     refine sx_run 7 (todo' := [.code (cd24 [1, 1, 0, 0, 1, 0, 1, 1]), .inBlock 0, .code (cd24 [1, 1, 1])]) (us := [(4, .int .i64 (-1))]) (by kernel_rfl) ?_
     have hS50 := hS10.drop
     have hS51 := hS50.drop
     refine runs_ret (fn := Try.f24) (v := .int .i64 (-1)) Try.func24 (by kernel_rfl) ?_
     have hr52 := (hq16 _ (Option.some.inj hp49))
     cases hr52
     exact hR _ _ ⟨rfl, hS51⟩
  ·skip
   have hp53 := ite_f hv12 h29
   refine sx_split 2 (todo' := [.inRegion (opsOf (cd24 [1, 1, 0, 0, 0])) [4, 5], .code (cd24 [1, 1, 0, 0, 1]), .inBlock 0, .code (cd24 [1, 1, 1])]) (us := [(14, .int .i64 a1.Thread)]) (d := 15) (t := (decide (a1.Thread < 0))) (by kernel_rfl) (fun h54 => ?_) (fun h55 => ?_)
   ·skip
    have hp56 := ite_t hp53 h54
    refine sx_split 9 (todo' := [.inRegion (opsOf (cd24 [1, 1, 0, 0, 1, 0, 0, 0])) [], .code (cd24 [1, 1, 0, 0, 1, 0, 0, 1]), .code (cd24 [1, 1, 0, 0, 1, 0, 1]), .inBlock 0, .code (cd24 [1, 1, 1])]) (us := [(16, .bool true), (11, .bool true), (17, .int .i64 a0.Thread)]) (d := 18) (t := (decide (a0.Thread < 0))) (by kernel_rfl) (fun h57 => ?_) (fun h58 => ?_)
    ·skip
     have hp59 := ite_t hp56 h57
     refine sx_run 6 (todo' := [.code (cd24 [1, 1, 0, 0, 1, 0, 0, 1, 0, 1]), .code (cd24 [1, 1, 0, 0, 1, 0, 1]), .inBlock 0, .code (cd24 [1, 1, 1])]) (us := [(4, .int .i64 1)]) (by kernel_rfl) ?_
     have hS60 := hS10.drop
     have hS61 := hS60.drop
     refine runs_ret (fn := Try.f24) (v := .int .i64 1) Try.func24 (by kernel_rfl) ?_
     have hr62 := (hq16 _ (Option.some.inj hp59))
     cases hr62
     exact hR _ _ ⟨rfl, hS61⟩
    ·skip
     have hp63 := ite_f hp56 h58
     refine sx_run 7 (todo' := [.code (cd24 [1, 1, 0, 0, 1, 0, 1, 1]), .inBlock 0, .code (cd24 [1, 1, 1])]) (us := [(4, .int .i64 (-1))]) (by kernel_rfl) ?_
     have hS64 := hS10.drop
     have hS65 := hS64.drop
     refine runs_ret (fn := Try.f24) (v := .int .i64 (-1)) Try.func24 (by kernel_rfl) ?_
     have hr66 := (hq16 _ (Option.some.inj hp63))
     cases hr66
     exact hR _ _ ⟨rfl, hS65⟩
   ·skip
    have hp67 := ite_f hp53 h55
    refine sx_split 9 (todo' := [.inRegion (opsOf (cd24 [1, 1, 0, 0, 1, 1, 0])) [3], .code (cd24 [1, 1, 0, 0, 1, 1, 1]), .inBlock 0, .code (cd24 [1, 1, 1])]) (us := [(16, .bool false), (11, .bool false), (20, .int .i64 a0.Thread), (21, .int .i64 a1.Thread)]) (d := 22) (t := (a0.Thread != a1.Thread)) (by kernel_rfl) (fun h68 => ?_) (fun h69 => ?_)
    ·skip
     have hp70 := ite_t hp67 h68
     refine sx_run 10 (todo' := [.code (cd24 [1, 1, 0, 0, 1, 1, 1, 0, 1]), .inBlock 0, .code (cd24 [1, 1, 1])]) (us := [(19, .bool true), (23, .int .i64 a0.Thread), (24, .int .i64 a1.Thread), (25, .int .i64 (IntKind.i64.wrap (a0.Thread - a1.Thread))), (4, .int .i64 (IntKind.i64.wrap (a0.Thread - a1.Thread)))]) (by kernel_rfl) ?_
     have hS71 := hS10.drop
     have hS72 := hS71.drop
     refine runs_ret (fn := Try.f24) (v := .int .i64 (IntKind.i64.wrap (a0.Thread - a1.Thread))) Try.func24 (by kernel_rfl) ?_
     have hr73 := (hq16 _ (Option.some.inj hp70))
     cases hr73
     exact hR _ _ ⟨rfl, hS72⟩
    ·skip
     have hp74 := ite_f hp67 h69
     refine sx_run 5 (todo' := [.code (cd24 [1, 1, 1])]) (us := [(19, .bool false)]) (by kernel_rfl) ?_
     have hS75 := hS10.pick1
     refine Runs.fill (m := [none, none, some (.pointer (some ⟨b1, 0, none⟩)), some (.pointer (some ⟨b5, 0, none⟩)), none, none, none, none, none, none, none, none, none, none, none, none, none, none, none, none, none, none, none, none, none, none, none, none, none, none, none]) (by kernel_rfl) ?_
     exact J17 (Option.some.inj hp74) _ _ hS75

noncomputable def cd25 (p : List Nat) : Code := sub (bodyOf Try.f25) p
def slices_Compact___api_Ref_api_Ref.l1 (a0 : List api_Ref) (t16 : Int) (t74 : Int) (t75 : Int) (t76 : List api_Ref) : Option (Int × (List api_Ref)) :=
  (if (decide (t75 < (((a0.length - t16.toNat) : Nat) : Int))) = true then (if 0 ≤ t75 ∧ t75 < (((a0.length - t16.toNat) : Nat) : Int) ∧ ((t16.toNat : Nat) : Int) + t75 < (t76.length : Int) then (if 0 ≤ (IntKind.i64.wrap (t75 - 1)) ∧ (IntKind.i64.wrap (t75 - 1)) < (((a0.length - t16.toNat) : Nat) : Int) ∧ ((t16.toNat : Nat) : Int) + (IntKind.i64.wrap (t75 - 1)) < (t76.length : Int) then (if (!(decide ((gt t76 (((t16.toNat : Nat) : Int) + t75)) = (gt t76 (((t16.toNat : Nat) : Int) + (IntKind.i64.wrap (t75 - 1))))))) = true then (if 0 ≤ t75 ∧ t75 < (((a0.length - t16.toNat) : Nat) : Int) ∧ ((t16.toNat : Nat) : Int) + t75 < (t76.length : Int) then (if 0 ≤ t74 ∧ t74 < (t76.length : Int) then (slices_Compact___api_Ref_api_Ref.l1 a0 t16 (IntKind.i64.wrap (t74 + 1)) (IntKind.i64.wrap (t75 + 1)) (setl t76 t74 (gt t76 (((t16.toNat : Nat) : Int) + t75)))) else none) else none) else (slices_Compact___api_Ref_api_Ref.l1 a0 t16 t74 (IntKind.i64.wrap (t75 + 1)) t76)) else none) else none) else some ((t74, t76)))
 partial_fixpoint
def slices_Compact___api_Ref_api_Ref.l0 (a0 : List api_Ref) (t16 : Int) : Option (Sum Unit (List api_Ref)) :=
  (if (decide (t16 < (a0.length : Int))) = true then (if 0 ≤ t16 ∧ t16 < (a0.length : Int) then (if 0 ≤ (IntKind.i64.wrap (t16 - 1)) ∧ (IntKind.i64.wrap (t16 - 1)) < (a0.length : Int) then (if (decide ((gt a0 t16) = (gt a0 (IntKind.i64.wrap (t16 - 1))))) = true then (if 0 ≤ t16 ∧ t16 ≤ ((a0.length : Nat) : Int) then (slices_Compact___api_Ref_api_Ref.l1 a0 t16 t16 1 a0 >>= (fun (t52, t53) => (if 0 ≤ t52 ∧ t52 ≤ ((t53.length : Nat) : Int) then (if t52.toNat + (t53.length - t52.toNat) ≤ t53.length then (if 0 ≤ t52 ∧ t52 ≤ ((copyv t53 t52.toNat (t53.length - t52.toNat) (List.replicate (t53.length - t52.toNat) (⟨0, (⟨#[]⟩ : ByteArray)⟩ : api_Ref))).length : Int) then (if t52.toNat ≤ (copyv t53 t52.toNat (t53.length - t52.toNat) (List.replicate (t53.length - t52.toNat) (⟨0, (⟨#[]⟩ : ByteArray)⟩ : api_Ref))).length then some (.inr (((copyv t53 t52.toNat (t53.length - t52.toNat) (List.replicate (t53.length - t52.toNat) (⟨0, (⟨#[]⟩ : ByteArray)⟩ : api_Ref))).take t52.toNat))) else none) else none) else none) else none))) else none) else (slices_Compact___api_Ref_api_Ref.l0 a0 (IntKind.i64.wrap (t16 + 1)))) else none) else none) else some (.inl ()))
 partial_fixpoint
def slices_Compact___api_Ref_api_Ref.f (a0 : List api_Ref) : Option (List api_Ref) :=
  (if (decide ((a0.length : Int) < 2)) = true then some (a0) else (slices_Compact___api_Ref_api_Ref.l0 a0 1 >>= (fun | .inl () => some (a0) | .inr e => some e)))
set_option maxHeartbeats 16000000 in
theorem slices_Compact___api_Ref_api_Ref.ok (a0 : List api_Ref) (Aa0 : Option Addr) (ca0 : Nat) {w0 : World} {Z : Zm} {fs : List XObj} {w : World} (hS0 : St w0 Z (xrow Aa0 ca0 46 2 (a0.flatMap enc_api_Ref) :: fs) w) {q0 : List api_Ref} (hp0 : slices_Compact___api_Ref_api_Ref.f a0 = some q0) :
    Calls Try.prog 25 #[.slice Aa0 a0.length ca0] w (fun e w' => ∃ (QA0 : Option Addr) (Qc0 : Nat), e = .returned (.slice QA0 q0.length Qc0) ∧ St w0 Z (xrow QA0 Qc0 46 2 (q0.flatMap enc_api_Ref) :: fs) w') := by
  refine calls_abs ?_; intro R hR
  unfold slices_Compact___api_Ref_api_Ref.f at hp0
  refine calls_of_runs (fn := Try.f25) (c := cd25 []) Try.func25 (by kernel_rfl) (al := [.slice Aa0 a0.length ca0]) rfl (n := 60) rfl ?_
  refine sx_split 10 (todo' := [.inRegion (opsOf (cd25 [1, 0, 0])) [], .code (cd25 [1, 0, 1]), .code (cd25 [1, 1])]) (us := [(2, .slice none 0 0), (6, .slice Aa0 a0.length ca0), (7, .int .i64 (a0.length : Int))]) (d := 8) (t := (decide ((a0.length : Int) < 2))) (by kernel_rfl) (fun h1 => ?_) (fun h2 => ?_)
  ·skip
   have hp3 := ite_t hp0 h1
   refine sx_run 7 (todo' := [.code (cd25 [1, 0, 1, 0, 1]), .code (cd25 [1, 1])]) (us := [(9, .slice Aa0 a0.length ca0), (2, .slice Aa0 a0.length ca0)]) (by kernel_rfl) ?_
   refine runs_ret (fn := Try.f25) (v := .slice Aa0 a0.length ca0) Try.func25 (by kernel_rfl) ?_
   have hr4 := (Option.some.inj hp3)
   cases hr4
   exact hR _ _ ⟨Aa0, ca0, rfl, hS0⟩
  ·skip
   have hp5 := ite_f hp0 h2
   refine sx_run 10 (todo' := [.code (cd25 [1, 1, 0, 1, 0, 0]), .inLoop (cd25 [1, 1, 0, 1, 0, 0]), .inBlock 0, .code (cd25 [1, 1, 1])]) (us := [(3, .int .i64 1)]) (by kernel_rfl) ?_
   obtain ⟨v6, hv7, hp8⟩ := bind_some' hp5
   have hq11 : ∀ x, Sum.inr x = v6 → x = q0 := by intro x hx; subst hx; simpa using hp8
   have J12 : ∀ (he14 : Sum.inl () = v6) (l13 : List Value) (w9 : World) (hS10 : St w0 Z (xrow Aa0 ca0 46 2 (a0.flatMap enc_api_Ref) :: fs) w9), Runs Try.prog 25 [.code (cd25 [1, 1, 1])] (fill [some (.slice Aa0 a0.length ca0), none, none, none, none, none, none, none, none, none, none, none, none, none, none, none, none, none, none, none, none, none, none, none, none, none, none, none, none, none, none, none, none, none, none, none, none, none, none, none, none, none, none, none, none, none, none, none, none, none, none, none, none, none, none, none, none, none, none, none, none] l13) w9 R := by
    intro he14 l13 w9 hS10
    subst he14
    try dsimp only at hp8
    refine sx_run 5 (todo' := [.code (cd25 [1, 1, 1, 1])]) (us := [(60, .slice Aa0 a0.length ca0), (2, .slice Aa0 a0.length ca0)]) (by kernel_rfl) ?_
    refine runs_ret (fn := Try.f25) (v := .slice Aa0 a0.length ca0) Try.func25 (by kernel_rfl) ?_
    have hr15 := (Option.some.inj hp8)
    cases hr15
    exact hR _ _ ⟨Aa0, ca0, rfl, hS10⟩
   have L25 : ∀ (t16 : Int) (e20 : Sum Unit (List api_Ref)), slices_Compact___api_Ref_api_Ref.l0 a0 t16 = some e20 → e20 = v6 → ∀ (l19 : List Value) (w17 : World) (hS18 : St w0 Z (xrow Aa0 ca0 46 2 (a0.flatMap enc_api_Ref) :: fs) w17), Runs Try.prog 25 [.code (cd25 [1, 1, 0, 1, 0, 0]), .inLoop (cd25 [1, 1, 0, 1, 0, 0]), .inBlock 0, .code (cd25 [1, 1, 1])] (fill [some (.slice Aa0 a0.length ca0), none, none, some (.int .i64 t16), none, none, none, none, none, none, none, none, none, none, none, none, none, none, none, none, none, none, none, none, none, none, none, none, none, none, none, none, none, none, none, none, none, none, none, none, none, none, none, none, none, none, none, none, none, none, none, none, none, none, none, none, none, none, none, none, none] l19) w17 R := by
    refine slices_Compact___api_Ref_api_Ref.l0.partial_correctness a0 (fun t16 e20 => e20 = v6 → ∀ (l19 : List Value) (w17 : World) (hS18 : St w0 Z (xrow Aa0 ca0 46 2 (a0.flatMap enc_api_Ref) :: fs) w17), Runs Try.prog 25 [.code (cd25 [1, 1, 0, 1, 0, 0]), .inLoop (cd25 [1, 1, 0, 1, 0, 0]), .inBlock 0, .code (cd25 [1, 1, 1])] (fill [some (.slice Aa0 a0.length ca0), none, none, some (.int .i64 t16), none, none, none, none, none, none, none, none, none, none, none, none, none, none, none, none, none, none, none, none, none, none, none, none, none, none, none, none, none, none, none, none, none, none, none, none, none, none, none, none, none, none, none, none, none, none, none, none, none, none, none, none, none, none, none, none, none] l19) w17 R) ?_
    intro rec24 ih23 t16 e20 hb22 he21 l19 w17 hS18
    have hq26 : ∀ x, Sum.inr x = e20 → x = q0 := fun x hx => hq11 x (hx.trans he21)
    refine sx_split 7 (todo' := [.inRegion (opsOf (cd25 [1, 1, 0, 1, 0, 0, 0, 0])) [], .code (cd25 [1, 1, 0, 1, 0, 0, 0, 1]), .code (cd25 [1, 1, 0, 1, 0, 0, 1]), .inLoop (cd25 [1, 1, 0, 1, 0, 0]), .inBlock 0, .code (cd25 [1, 1, 1])]) (us := [(10, .int .i64 t16), (11, .slice Aa0 a0.length ca0), (12, .int .i64 (a0.length : Int))]) (d := 13) (t := (decide (t16 < (a0.length : Int)))) (by kernel_rfl) (fun h27 => ?_) (fun h28 => ?_)
    ·skip
     have hp29 := ite_t hb22 h27
     refine sx_run 6 (todo' := [.code (cd25 [1, 1, 0, 1, 0, 0, 1, 0, 0, 0]), .code (cd25 [1, 1, 0, 1, 0, 0, 1, 0, 0, 1]), .inBlock 1, .code (cd25 [1, 1, 0, 1, 0, 0, 1, 1]), .inLoop (cd25 [1, 1, 0, 1, 0, 0]), .inBlock 0, .code (cd25 [1, 1, 1])]) (us := []) (by kernel_rfl) ?_
     refine r_quiet hS18 (c := (cd25 [1, 1, 0, 1, 0, 0, 1, 0, 0, 0])) (id := 6) (by kernel_rfl) (by kernel_rfl) (by kernel_rfl) (is := [0, 1, 2, 3, 4, 5, 6, 7, 8, 9]) (by kernel_rfl) ?_
     refine q_run 2 (is' := [2, 3, 4, 5, 6, 7, 8, 9]) (us := [(16, .slice Aa0 a0.length ca0), (17, .int .i64 t16)]) (by kernel_rfl) ?_
     obtain ⟨g30, hp31⟩ := ite_some hp29
     obtain ⟨b32, p33, hA34, -⟩ := (hS18.row 0 rfl).at_ len_api_Ref (by omega) g30.1 g30.2
     refine q_indexAddr (c := (cd25 [1, 1, 0, 1, 0, 0, 1, 0, 0, 0])) (i := 2) (d := (some 18)) (ty := 0) (t := 34) (e := 46) (n := a0.length) (cp := ca0) (sz := 2) (kk := .i64) (x := (.tmp 16)) (y := (.tmp 17)) (b := b32) (o' := p33) (j := t16) (by kernel_rfl) (by kernel_rfl) (slv (by kernel_rfl) hA34) (by kernel_rfl) (by kernel_rfl) (by kernel_rfl) g30.1 g30.2 ?_
     refine q_load (c := (cd25 [1, 1, 0, 1, 0, 0, 1, 0, 0, 0])) (i := 3) (d := (some 19)) (ty := 46) (t := 46) (x := (.tmp 18)) (p := ⟨b32, p33 + t16.toNat * 2, none⟩) (v := .agg (enc_api_Ref (gt a0 t16)).toArray) (by kernel_rfl) (by kernel_rfl) (by kernel_rfl) (fun w hC => (loads_agg ((hC.row 0 rfl).at2 hA34 len_api_Ref (by omega) g30.1 g30.2) (by kernel_rfl) (by kernel_rfl))) ?_
     refine q_run 3 (is' := [7, 8, 9]) (us := [(20, .slice Aa0 a0.length ca0), (21, .int .i64 t16), (22, .int .i64 (IntKind.i64.wrap (t16 - 1)))]) (by kernel_rfl) ?_
     obtain ⟨g36, hp37⟩ := ite_some hp31
     obtain ⟨b38, p39, hA40, -⟩ := (hS18.row 0 rfl).at_ len_api_Ref (by omega) g36.1 g36.2
     refine q_indexAddr (c := (cd25 [1, 1, 0, 1, 0, 0, 1, 0, 0, 0])) (i := 7) (d := (some 23)) (ty := 0) (t := 34) (e := 46) (n := a0.length) (cp := ca0) (sz := 2) (kk := .i64) (x := (.tmp 20)) (y := (.tmp 22)) (b := b38) (o' := p39) (j := (IntKind.i64.wrap (t16 - 1))) (by kernel_rfl) (by kernel_rfl) (slv (by kernel_rfl) hA40) (by kernel_rfl) (by kernel_rfl) (by kernel_rfl) g36.1 g36.2 ?_
     refine q_load (c := (cd25 [1, 1, 0, 1, 0, 0, 1, 0, 0, 0])) (i := 8) (d := (some 24)) (ty := 46) (t := 46) (x := (.tmp 23)) (p := ⟨b38, p39 + (IntKind.i64.wrap (t16 - 1)).toNat * 2, none⟩) (v := .agg (enc_api_Ref (gt a0 (IntKind.i64.wrap (t16 - 1)))).toArray) (by kernel_rfl) (by kernel_rfl) (by kernel_rfl) (fun w hC => (loads_agg ((hC.row 0 rfl).at2 hA40 len_api_Ref (by omega) g36.1 g36.2) (by kernel_rfl) (by kernel_rfl))) ?_
     refine q_val (c := (cd25 [1, 1, 0, 1, 0, 0, 1, 0, 0, 0])) (i := 9) (d := (some 25)) (ty := 4) (op := .binOp .eql 46 (.tmp 19) (.tmp 24) 46) (v := .bool (decide ((gt a0 t16) = (gt a0 (IntKind.i64.wrap (t16 - 1)))))) (by kernel_rfl) (by kernel_rfl) (fun w hC o ho _ => x_eql_api_Ref (by kernel_rfl) (by kernel_rfl) ho) ?_
     refine q_split (decide ((gt a0 t16) = (gt a0 (IntKind.i64.wrap (t16 - 1))))) (fun h42 => ?_) (fun h43 => ?_)
     ·skip
      have hp44 := ite_t hp37 h42
      refine Qs.nil ?_
      intro w45 hS46
      refine sx_run 5 (todo' := [.inRegion (opsOf (cd25 [1, 1, 0, 1, 0, 0, 1, 0, 0, 1, 0, 0])) [2, 3], .code (cd25 [1, 1, 0, 1, 0, 0, 1, 0, 0, 1, 0, 1]), .inBlock 1, .code (cd25 [1, 1, 0, 1, 0, 0, 1, 1]), .inLoop (cd25 [1, 1, 0, 1, 0, 0]), .inBlock 0, .code (cd25 [1, 1, 1])]) (us := [(26, .slice Aa0 a0.length ca0), (27, .int .i64 t16)]) (by kernel_rfl) ?_
      obtain ⟨g47, hp48⟩ := ite_some hp44
      refine r_val (c := (cd25 [1, 1, 0, 1, 0, 0, 1, 0, 0, 1, 0, 0])) (i := 2) (d := (some 28)) (ty := 34) (op := .slice 34 (.tmp 26) (some (.tmp 27)) none none) (v := .slice (vA Aa0 ca0 t16.toNat 2) (a0.length - t16.toNat) (ca0 - t16.toNat)) (by kernel_rfl) (by kernel_rfl) (fun o ho _ => x_cutSl_sn (e := 46) (sz := 2) (A := Aa0) (n := a0.length) (c := ca0) (k := .i64) (by kernel_rfl) (by kernel_rfl) (by kernel_rfl) (by kernel_rfl) g47 rfl ho) ?_
      refine sx_run 9 (todo' := [.code (cd25 [1, 1, 0, 1, 0, 0, 1, 0, 0, 1, 0, 1, 0, 1, 0, 0]), .inLoop (cd25 [1, 1, 0, 1, 0, 0, 1, 0, 0, 1, 0, 1, 0, 1, 0, 0]), .inBlock 2, .code (cd25 [1, 1, 0, 1, 0, 0, 1, 0, 0, 1, 0, 1, 1]), .inBlock 1, .code (cd25 [1, 1, 0, 1, 0, 0, 1, 1]), .inLoop (cd25 [1, 1, 0, 1, 0, 0]), .inBlock 0, .code (cd25 [1, 1, 1])]) (us := [(4, .slice (vA Aa0 ca0 t16.toNat 2) (a0.length - t16.toNat) (ca0 - t16.toNat)), (5, .int .i64 1)]) (by kernel_rfl) ?_
      obtain ⟨v49, hv50, hp51⟩ := bind_some' hp48
      have J56 : ∀ (t52 : Int) (t53 : List api_Ref) (he58 : (t52, t53) = v49) (l57 : List Value) (w54 : World) (hS55 : St w0 Z (xrow Aa0 ca0 46 2 (t53.flatMap enc_api_Ref) :: fs) w54), Runs Try.prog 25 [.code (cd25 [1, 1, 0, 1, 0, 0, 1, 0, 0, 1, 0, 1, 1]), .inBlock 1, .code (cd25 [1, 1, 0, 1, 0, 0, 1, 1]), .inLoop (cd25 [1, 1, 0, 1, 0, 0]), .inBlock 0, .code (cd25 [1, 1, 1])] (fill [some (.slice Aa0 t53.length ca0), none, none, some (.int .i64 t52), none, none, none, none, none, none, none, none, none, none, none, none, none, none, none, none, none, none, none, none, none, none, none, none, none, none, none, none, none, none, none, none, none, none, none, none, none, none, none, none, none, none, none, none, none, none, none, none, none, none, none, none, none, none, none, none, none] l57) w54 R := by
       intro t52 t53 he58 l57 w54 hS55
       subst he58
       try dsimp only at hp51
       refine sx_run 4 (todo' := [.inRegion (opsOf (cd25 [1, 1, 0, 1, 0, 0, 1, 0, 0, 1, 0, 1, 1, 0])) [2, 3], .code (cd25 [1, 1, 0, 1, 0, 0, 1, 0, 0, 1, 0, 1, 1, 1]), .inBlock 1, .code (cd25 [1, 1, 0, 1, 0, 0, 1, 1]), .inLoop (cd25 [1, 1, 0, 1, 0, 0]), .inBlock 0, .code (cd25 [1, 1, 1])]) (us := [(54, .slice Aa0 t53.length ca0), (55, .int .i64 t52)]) (by kernel_rfl) ?_
       obtain ⟨g59, hp60⟩ := ite_some hp51
       refine r_val (c := (cd25 [1, 1, 0, 1, 0, 0, 1, 0, 0, 1, 0, 1, 1, 0])) (i := 2) (d := (some 56)) (ty := 34) (op := .slice 34 (.tmp 54) (some (.tmp 55)) none none) (v := .slice (vA Aa0 ca0 t52.toNat 2) (t53.length - t52.toNat) (ca0 - t52.toNat)) (by kernel_rfl) (by kernel_rfl) (fun o ho _ => x_cutSl_sn (e := 46) (sz := 2) (A := Aa0) (n := t53.length) (c := ca0) (k := .i64) (by kernel_rfl) (by kernel_rfl) (by kernel_rfl) (by kernel_rfl) g59 rfl ho) ?_
       obtain ⟨g61, hp62⟩ := ite_some hp60
       refine r_clearV (c := (cd25 [1, 1, 0, 1, 0, 0, 1, 0, 0, 1, 0, 1, 1, 0])) (i := 3) (d := none) (ty := 0) (enc := enc_api_Ref) (e := 46) (t := 34) (sz := 2) (cp := ca0) (L := t52.toNat) (n := (t53.length - t52.toNat)) (A := Aa0) (xs := t53) (s := (.tmp 56)) (z := .agg (enc_api_Ref (⟨0, (⟨#[]⟩ : ByteArray)⟩ : api_Ref)).toArray) (z0 := (⟨0, (⟨#[]⟩ : ByteArray)⟩ : api_Ref)) hS55 (by kernel_rfl) (by kernel_rfl) (by kernel_rfl) (by kernel_rfl) (by kernel_rfl) (by kernel_rfl) (by omega) len_api_Ref one_api_Ref g61 ?_
       intro w63 hS64
       refine Runs.fill (m := [some (.slice Aa0 t53.length ca0), none, none, none, none, none, none, none, none, none, none, none, none, none, none, none, none, none, none, none, none, none, none, none, none, none, none, none, none, none, none, none, none, none, none, none, none, none, none, none, none, none, none, none, none, none, none, none, none, none, none, none, none, none, some (.slice Aa0 t53.length ca0), none, none, none, none, none, none]) (by kernel_rfl) ?_
       refine Runs.refill (m' := [some (.slice Aa0 (copyv t53 t52.toNat (t53.length - t52.toNat) (List.replicate (t53.length - t52.toNat) (⟨0, (⟨#[]⟩ : ByteArray)⟩ : api_Ref))).length ca0), none, none, none, none, none, none, none, none, none, none, none, none, none, none, none, none, none, none, none, none, none, none, none, none, none, none, none, none, none, none, none, none, none, none, none, none, none, none, none, none, none, none, none, none, none, none, none, none, none, none, none, none, none, some (.slice Aa0 (copyv t53 t52.toNat (t53.length - t52.toNat) (List.replicate (t53.length - t52.toNat) (⟨0, (⟨#[]⟩ : ByteArray)⟩ : api_Ref))).length ca0), none, none, none, none, none, none]) (by simp only [copyv_len g61]) ?_
       refine sx_run 5 (todo' := [.inRegion (opsOf (cd25 [1, 1, 0, 1, 0, 0, 1, 0, 0, 1, 0, 1, 1, 1, 0])) [2, 3], .code (cd25 [1, 1, 0, 1, 0, 0, 1, 0, 0, 1, 0, 1, 1, 1, 1]), .inBlock 1, .code (cd25 [1, 1, 0, 1, 0, 0, 1, 1]), .inLoop (cd25 [1, 1, 0, 1, 0, 0]), .inBlock 0, .code (cd25 [1, 1, 1])]) (us := [(57, .slice Aa0 (copyv t53 t52.toNat (t53.length - t52.toNat) (List.replicate (t53.length - t52.toNat) (⟨0, (⟨#[]⟩ : ByteArray)⟩ : api_Ref))).length ca0), (58, .int .i64 t52)]) (by kernel_rfl) ?_
       obtain ⟨g65, hp66⟩ := ite_some hp62
       have hc67 := (hS64.row 0 rfl).cap len_api_Ref (by omega)
       have g68 : 0 ≤ t52 ∧ t52 ≤ (ca0 : Int) := by omega
       refine r_val (c := (cd25 [1, 1, 0, 1, 0, 0, 1, 0, 0, 1, 0, 1, 1, 1, 0])) (i := 2) (d := (some 59)) (ty := 34) (op := .slice 34 (.tmp 57) none (some (.tmp 58)) none) (v := .slice Aa0 t52.toNat ca0) (by kernel_rfl) (by kernel_rfl) (fun o ho _ => x_cutSl_nsC (e := 46) (sz := 2) (A := Aa0) (n := (copyv t53 t52.toNat (t53.length - t52.toNat) (List.replicate (t53.length - t52.toNat) (⟨0, (⟨#[]⟩ : ByteArray)⟩ : api_Ref))).length) (c := ca0) (k := .i64) (by kernel_rfl) (by kernel_rfl) (by kernel_rfl) (by kernel_rfl) g68 cut0 ho) ?_
       refine sx_run 2 (todo' := [.code (cd25 [1, 1, 0, 1, 0, 0, 1, 0, 0, 1, 0, 1, 1, 1, 1]), .inBlock 1, .code (cd25 [1, 1, 0, 1, 0, 0, 1, 1]), .inLoop (cd25 [1, 1, 0, 1, 0, 0]), .inBlock 0, .code (cd25 [1, 1, 1])]) (us := [(2, .slice Aa0 t52.toNat ca0)]) (by kernel_rfl) ?_
       obtain ⟨g69, hp70⟩ := ite_some hp66
       have hS71 := hS64.cutrow0 t52.toNat g69 len_api_Ref
       refine runs_ret (fn := Try.f25) (v := .slice Aa0 t52.toNat ca0) Try.func25 (by kernel_rfl) ?_
       have hr73 := (hq26 _ (Option.some.inj hp70))
       cases hr73
       exact hR _ _ ⟨Aa0, ca0, (by rw [lenTake g69]), hS71⟩
      have L85 : ∀ (t74 : Int) (t75 : Int) (t76 : List api_Ref) (e80 : (Int × (List api_Ref))), slices_Compact___api_Ref_api_Ref.l1 a0 t16 t74 t75 t76 = some e80 → e80 = v49 → ∀ (l79 : List Value) (w77 : World) (hS78 : St w0 Z (xrow Aa0 ca0 46 2 (t76.flatMap enc_api_Ref) :: fs) w77), Runs Try.prog 25 [.code (cd25 [1, 1, 0, 1, 0, 0, 1, 0, 0, 1, 0, 1, 0, 1, 0, 0]), .inLoop (cd25 [1, 1, 0, 1, 0, 0, 1, 0, 0, 1, 0, 1, 0, 1, 0, 0]), .inBlock 2, .code (cd25 [1, 1, 0, 1, 0, 0, 1, 0, 0, 1, 0, 1, 1]), .inBlock 1, .code (cd25 [1, 1, 0, 1, 0, 0, 1, 1]), .inLoop (cd25 [1, 1, 0, 1, 0, 0]), .inBlock 0, .code (cd25 [1, 1, 1])] (fill [some (.slice Aa0 t76.length ca0), none, none, some (.int .i64 t74), some (.slice (vA Aa0 ca0 t16.toNat 2) (a0.length - t16.toNat) (ca0 - t16.toNat)), some (.int .i64 t75), none, none, none, none, none, none, none, none, none, none, none, none, none, none, none, none, none, none, none, none, none, none, none, none, none, none, none, none, none, none, none, none, none, none, none, none, none, none, none, none, none, none, none, none, none, none, none, none, none, none, none, none, none, none, none] l79) w77 R := by
       refine slices_Compact___api_Ref_api_Ref.l1.partial_correctness a0 t16 (fun t74 t75 t76 e80 => e80 = v49 → ∀ (l79 : List Value) (w77 : World) (hS78 : St w0 Z (xrow Aa0 ca0 46 2 (t76.flatMap enc_api_Ref) :: fs) w77), Runs Try.prog 25 [.code (cd25 [1, 1, 0, 1, 0, 0, 1, 0, 0, 1, 0, 1, 0, 1, 0, 0]), .inLoop (cd25 [1, 1, 0, 1, 0, 0, 1, 0, 0, 1, 0, 1, 0, 1, 0, 0]), .inBlock 2, .code (cd25 [1, 1, 0, 1, 0, 0, 1, 0, 0, 1, 0, 1, 1]), .inBlock 1, .code (cd25 [1, 1, 0, 1, 0, 0, 1, 1]), .inLoop (cd25 [1, 1, 0, 1, 0, 0]), .inBlock 0, .code (cd25 [1, 1, 1])] (fill [some (.slice Aa0 t76.length ca0), none, none, some (.int .i64 t74), some (.slice (vA Aa0 ca0 t16.toNat 2) (a0.length - t16.toNat) (ca0 - t16.toNat)), some (.int .i64 t75), none, none, none, none, none, none, none, none, none, none, none, none, none, none, none, none, none, none, none, none, none, none, none, none, none, none, none, none, none, none, none, none, none, none, none, none, none, none, none, none, none, none, none, none, none, none, none, none, none, none, none, none, none, none, none] l79) w77 R) ?_
       intro rec84 ih83 t74 t75 t76 e80 hb82 he81 l79 w77 hS78
       refine sx_split 7 (todo' := [.inRegion (opsOf (cd25 [1, 1, 0, 1, 0, 0, 1, 0, 0, 1, 0, 1, 0, 1, 0, 0, 0, 0])) [], .code (cd25 [1, 1, 0, 1, 0, 0, 1, 0, 0, 1, 0, 1, 0, 1, 0, 0, 0, 1]), .code (cd25 [1, 1, 0, 1, 0, 0, 1, 0, 0, 1, 0, 1, 0, 1, 0, 0, 1]), .inLoop (cd25 [1, 1, 0, 1, 0, 0, 1, 0, 0, 1, 0, 1, 0, 1, 0, 0]), .inBlock 2, .code (cd25 [1, 1, 0, 1, 0, 0, 1, 0, 0, 1, 0, 1, 1]), .inBlock 1, .code (cd25 [1, 1, 0, 1, 0, 0, 1, 1]), .inLoop (cd25 [1, 1, 0, 1, 0, 0]), .inBlock 0, .code (cd25 [1, 1, 1])]) (us := [(29, .int .i64 t75), (30, .slice (vA Aa0 ca0 t16.toNat 2) (a0.length - t16.toNat) (ca0 - t16.toNat)), (31, .int .i64 (((a0.length - t16.toNat) : Nat) : Int))]) (d := 32) (t := (decide (t75 < (((a0.length - t16.toNat) : Nat) : Int)))) (by kernel_rfl) (fun h86 => ?_) (fun h87 => ?_)
       ·skip
        have hp88 := ite_t hb82 h86
        refine sx_run 6 (todo' := [.code (cd25 [1, 1, 0, 1, 0, 0, 1, 0, 0, 1, 0, 1, 0, 1, 0, 0, 1, 0, 0, 0]), .code (cd25 [1, 1, 0, 1, 0, 0, 1, 0, 0, 1, 0, 1, 0, 1, 0, 0, 1, 0, 0, 1]), .inBlock 3, .code (cd25 [1, 1, 0, 1, 0, 0, 1, 0, 0, 1, 0, 1, 0, 1, 0, 0, 1, 1]), .inLoop (cd25 [1, 1, 0, 1, 0, 0, 1, 0, 0, 1, 0, 1, 0, 1, 0, 0]), .inBlock 2, .code (cd25 [1, 1, 0, 1, 0, 0, 1, 0, 0, 1, 0, 1, 1]), .inBlock 1, .code (cd25 [1, 1, 0, 1, 0, 0, 1, 1]), .inLoop (cd25 [1, 1, 0, 1, 0, 0]), .inBlock 0, .code (cd25 [1, 1, 1])]) (us := []) (by kernel_rfl) ?_
        refine r_quiet hS78 (c := (cd25 [1, 1, 0, 1, 0, 0, 1, 0, 0, 1, 0, 1, 0, 1, 0, 0, 1, 0, 0, 0])) (id := 11) (by kernel_rfl) (by kernel_rfl) (by kernel_rfl) (is := [0, 1, 2, 3, 4, 5, 6, 7, 8, 9]) (by kernel_rfl) ?_
        refine q_run 2 (is' := [2, 3, 4, 5, 6, 7, 8, 9]) (us := [(35, .slice (vA Aa0 ca0 t16.toNat 2) (a0.length - t16.toNat) (ca0 - t16.toNat)), (36, .int .i64 t75)]) (by kernel_rfl) ?_
        obtain ⟨g89, hp90⟩ := ite_some hp88
        obtain ⟨b91, p92, hA93, -⟩ := (hS78.row 0 rfl).at_ len_api_Ref (by omega) (i := ((t16.toNat : Nat) : Int) + t75) (by omega) g89.2.2
        have g94 : 0 ≤ t75 ∧ ((t16.toNat : Nat) : Int) + t75 < (t76.length : Int) := ⟨g89.1, g89.2.2⟩
        have hc96 := (hS78.row 0 rfl).cap len_api_Ref (by omega)
        have hA95 := vA_at (c := ca0) (sz := 2) (L := t16.toNat) hA93 (by omega)
        refine q_indexAddr (c := (cd25 [1, 1, 0, 1, 0, 0, 1, 0, 0, 1, 0, 1, 0, 1, 0, 0, 1, 0, 0, 0])) (i := 2) (d := (some 37)) (ty := 0) (t := 34) (e := 46) (n := (a0.length - t16.toNat)) (cp := (ca0 - t16.toNat)) (sz := 2) (kk := .i64) (x := (.tmp 35)) (y := (.tmp 36)) (b := b91) (o' := p92 + t16.toNat * 2) (j := t75) (by kernel_rfl) (by kernel_rfl) (slv (by kernel_rfl) hA95) (by kernel_rfl) (by kernel_rfl) (by kernel_rfl) g89.1 g89.2.1 ?_
        refine q_load (c := (cd25 [1, 1, 0, 1, 0, 0, 1, 0, 0, 1, 0, 1, 0, 1, 0, 0, 1, 0, 0, 0])) (i := 3) (d := (some 38)) (ty := 46) (t := 46) (x := (.tmp 37)) (p := ⟨b91, p92 + t16.toNat * 2 + t75.toNat * 2, none⟩) (v := .agg (enc_api_Ref (gt t76 (((t16.toNat : Nat) : Int) + t75))).toArray) (by kernel_rfl) (by kernel_rfl) (by kernel_rfl) (fun w hC => (loads_agg ((hC.row 0 rfl).at2v hA93 len_api_Ref (by omega) g94.1 g94.2) (by kernel_rfl) (by kernel_rfl))) ?_
        refine q_run 3 (is' := [7, 8, 9]) (us := [(39, .slice (vA Aa0 ca0 t16.toNat 2) (a0.length - t16.toNat) (ca0 - t16.toNat)), (40, .int .i64 t75), (41, .int .i64 (IntKind.i64.wrap (t75 - 1)))]) (by kernel_rfl) ?_
        obtain ⟨g97, hp98⟩ := ite_some hp90
        obtain ⟨b99, p100, hA101, -⟩ := (hS78.row 0 rfl).at_ len_api_Ref (by omega) (i := ((t16.toNat : Nat) : Int) + (IntKind.i64.wrap (t75 - 1))) (by omega) g97.2.2
        have g102 : 0 ≤ (IntKind.i64.wrap (t75 - 1)) ∧ ((t16.toNat : Nat) : Int) + (IntKind.i64.wrap (t75 - 1)) < (t76.length : Int) := ⟨g97.1, g97.2.2⟩
        have hc104 := (hS78.row 0 rfl).cap len_api_Ref (by omega)
        have hA103 := vA_at (c := ca0) (sz := 2) (L := t16.toNat) hA101 (by omega)
        refine q_indexAddr (c := (cd25 [1, 1, 0, 1, 0, 0, 1, 0, 0, 1, 0, 1, 0, 1, 0, 0, 1, 0, 0, 0])) (i := 7) (d := (some 42)) (ty := 0) (t := 34) (e := 46) (n := (a0.length - t16.toNat)) (cp := (ca0 - t16.toNat)) (sz := 2) (kk := .i64) (x := (.tmp 39)) (y := (.tmp 41)) (b := b99) (o' := p100 + t16.toNat * 2) (j := (IntKind.i64.wrap (t75 - 1))) (by kernel_rfl) (by kernel_rfl) (slv (by kernel_rfl) hA103) (by kernel_rfl) (by kernel_rfl) (by kernel_rfl) g97.1 g97.2.1 ?_
        refine q_load (c := (cd25 [1, 1, 0, 1, 0, 0, 1, 0, 0, 1, 0, 1, 0, 1, 0, 0, 1, 0, 0, 0])) (i := 8) (d := (some 43)) (ty := 46) (t := 46) (x := (.tmp 42)) (p := ⟨b99, p100 + t16.toNat * 2 + (IntKind.i64.wrap (t75 - 1)).toNat * 2, none⟩) (v := .agg (enc_api_Ref (gt t76 (((t16.toNat : Nat) : Int) + (IntKind.i64.wrap (t75 - 1))))).toArray) (by kernel_rfl) (by kernel_rfl) (by kernel_rfl) (fun w hC => (loads_agg ((hC.row 0 rfl).at2v hA101 len_api_Ref (by omega) g102.1 g102.2) (by kernel_rfl) (by kernel_rfl))) ?_
        refine q_val (c := (cd25 [1, 1, 0, 1, 0, 0, 1, 0, 0, 1, 0, 1, 0, 1, 0, 0, 1, 0, 0, 0])) (i := 9) (d := (some 44)) (ty := 4) (op := .binOp .neq 46 (.tmp 38) (.tmp 43) 46) (v := .bool (!(decide ((gt t76 (((t16.toNat : Nat) : Int) + t75)) = (gt t76 (((t16.toNat : Nat) : Int) + (IntKind.i64.wrap (t75 - 1)))))))) (by kernel_rfl) (by kernel_rfl) (fun w hC o ho _ => x_neq_api_Ref (by kernel_rfl) (by kernel_rfl) ho) ?_
        refine q_split (!(decide ((gt t76 (((t16.toNat : Nat) : Int) + t75)) = (gt t76 (((t16.toNat : Nat) : Int) + (IntKind.i64.wrap (t75 - 1))))))) (fun h105 => ?_) (fun h106 => ?_)
        ·skip
         have hp107 := ite_t hp98 h105
         refine Qs.nil ?_
         intro w108 hS109
         refine sx_run 7 (todo' := [.inRegion (opsOf (cd25 [1, 1, 0, 1, 0, 0, 1, 0, 0, 1, 0, 1, 0, 1, 0, 0, 1, 0, 0, 1, 0, 0])) [4, 5, 6, 7], .code (cd25 [1, 1, 0, 1, 0, 0, 1, 0, 0, 1, 0, 1, 0, 1, 0, 0, 1, 0, 0, 1, 0, 1]), .inBlock 3, .code (cd25 [1, 1, 0, 1, 0, 0, 1, 0, 0, 1, 0, 1, 0, 1, 0, 0, 1, 1]), .inLoop (cd25 [1, 1, 0, 1, 0, 0, 1, 0, 0, 1, 0, 1, 0, 1, 0, 0]), .inBlock 2, .code (cd25 [1, 1, 0, 1, 0, 0, 1, 0, 0, 1, 0, 1, 1]), .inBlock 1, .code (cd25 [1, 1, 0, 1, 0, 0, 1, 1]), .inLoop (cd25 [1, 1, 0, 1, 0, 0]), .inBlock 0, .code (cd25 [1, 1, 1])]) (us := [(45, .slice Aa0 t76.length ca0), (46, .int .i64 t74), (47, .slice (vA Aa0 ca0 t16.toNat 2) (a0.length - t16.toNat) (ca0 - t16.toNat)), (48, .int .i64 t75)]) (by kernel_rfl) ?_
         obtain ⟨g110, hp111⟩ := ite_some hp107
         obtain ⟨b112, p113, hA114, -⟩ := (hS109.row 0 rfl).at_ len_api_Ref (by omega) (i := ((t16.toNat : Nat) : Int) + t75) (by omega) g110.2.2
         have g115 : 0 ≤ t75 ∧ ((t16.toNat : Nat) : Int) + t75 < (t76.length : Int) := ⟨g110.1, g110.2.2⟩
         have hc117 := (hS109.row 0 rfl).cap len_api_Ref (by omega)
         have hA116 := vA_at (c := ca0) (sz := 2) (L := t16.toNat) hA114 (by omega)
         refine r_indexAddr (c := (cd25 [1, 1, 0, 1, 0, 0, 1, 0, 0, 1, 0, 1, 0, 1, 0, 0, 1, 0, 0, 1, 0, 0])) (i := 4) (d := (some 49)) (ty := 0) (t := 34) (e := 46) (n := (a0.length - t16.toNat)) (cp := (ca0 - t16.toNat)) (sz := 2) (kk := .i64) (x := (.tmp 47)) (y := (.tmp 48)) (b := b112) (o' := p113 + t16.toNat * 2) (j := t75) (by kernel_rfl) (by kernel_rfl) (slv (by kernel_rfl) hA116) (by kernel_rfl) (by kernel_rfl) (by kernel_rfl) g110.1 g110.2.1 ?_
         refine r_load (c := (cd25 [1, 1, 0, 1, 0, 0, 1, 0, 0, 1, 0, 1, 0, 1, 0, 0, 1, 0, 0, 1, 0, 0])) (i := 5) (d := (some 50)) (ty := 46) (t := 46) (x := (.tmp 49)) (p := ⟨b112, p113 + t16.toNat * 2 + t75.toNat * 2, none⟩) (v := .agg (enc_api_Ref (gt t76 (((t16.toNat : Nat) : Int) + t75))).toArray) (by kernel_rfl) (by kernel_rfl) (by kernel_rfl) (loads_agg ((hS109.row 0 rfl).at2v hA114 len_api_Ref (by omega) g115.1 g115.2) (by kernel_rfl) (by kernel_rfl)) ?_
         obtain ⟨g118, hp119⟩ := ite_some hp111
         obtain ⟨b120, p121, hA122, -⟩ := (hS109.row 0 rfl).at_ len_api_Ref (by omega) g118.1 g118.2
         refine r_indexAddr (c := (cd25 [1, 1, 0, 1, 0, 0, 1, 0, 0, 1, 0, 1, 0, 1, 0, 0, 1, 0, 0, 1, 0, 0])) (i := 6) (d := (some 51)) (ty := 0) (t := 34) (e := 46) (n := t76.length) (cp := ca0) (sz := 2) (kk := .i64) (x := (.tmp 45)) (y := (.tmp 46)) (b := b120) (o' := p121) (j := t74) (by kernel_rfl) (by kernel_rfl) (slv (by kernel_rfl) hA122) (by kernel_rfl) (by kernel_rfl) (by kernel_rfl) g118.1 g118.2 ?_
         refine r_storeEl (c := (cd25 [1, 1, 0, 1, 0, 0, 1, 0, 0, 1, 0, 1, 0, 1, 0, 0, 1, 0, 0, 1, 0, 0])) (i := 7) (d := none) (ty := 0) (enc := enc_api_Ref) (e := 46) (t := 46) (sz := 2) (cp := ca0) (A := Aa0) (xs := t76) (x := (.tmp 51)) (y := (.tmp 50)) (el := gt t76 t74) (el' := (gt t76 (((t16.toNat : Nat) : Int) + t75))) (j := t74) (off := 0) (b := b120) (p := p121) (v := .agg (enc_api_Ref (gt t76 (((t16.toNat : Nat) : Int) + t75))).toArray) (vs := enc_api_Ref (gt t76 (((t16.toNat : Nat) : Int) + t75))) (ad := ⟨b120, p121 + t74.toNat * 2, none⟩) hS109 (by kernel_rfl) (by kernel_rfl) (by kernel_rfl) (by simp) (by kernel_rfl) hA122 g118 rfl len_api_Ref (by kernel_rfl) (by kernel_rfl) (one_api_Ref _) (by rw [len_api_Ref]; omega) (by rw [len_api_Ref]; omega) (by kernel_rfl) ?_
         intro w124 hS125
         refine Runs.fill (m := [some (.slice Aa0 t76.length ca0), none, none, none, none, none, none, none, none, none, none, none, none, none, none, none, none, none, none, none, none, none, none, none, none, none, none, none, none, none, none, none, none, none, none, none, none, none, none, none, none, none, none, none, none, some (.slice Aa0 t76.length ca0), none, none, none, none, none, none, none, none, none, none, none, none, none, none, none]) (by kernel_rfl) ?_
         refine Runs.refill (m' := [some (.slice Aa0 (setl t76 t74 (gt t76 (((t16.toNat : Nat) : Int) + t75))).length ca0), none, none, none, none, none, none, none, none, none, none, none, none, none, none, none, none, none, none, none, none, none, none, none, none, none, none, none, none, none, none, none, none, none, none, none, none, none, none, none, none, none, none, none, none, some (.slice Aa0 (setl t76 t74 (gt t76 (((t16.toNat : Nat) : Int) + t75))).length ca0), none, none, none, none, none, none, none, none, none, none, none, none, none, none, none]) (by simp only [setl_len]) ?_
         refine sx_run 12 (todo' := [.inLoop (cd25 [1, 1, 0, 1, 0, 0, 1, 0, 0, 1, 0, 1, 0, 1, 0, 0]), .inBlock 2, .code (cd25 [1, 1, 0, 1, 0, 0, 1, 0, 0, 1, 0, 1, 1]), .inBlock 1, .code (cd25 [1, 1, 0, 1, 0, 0, 1, 1]), .inLoop (cd25 [1, 1, 0, 1, 0, 0]), .inBlock 0, .code (cd25 [1, 1, 1])]) (us := [(52, .int .i64 t74), (53, .int .i64 (IntKind.i64.wrap (t74 + 1))), (3, .int .i64 (IntKind.i64.wrap (t74 + 1))), (33, .int .i64 t75), (34, .int .i64 (IntKind.i64.wrap (t75 + 1))), (5, .int .i64 (IntKind.i64.wrap (t75 + 1)))]) (by kernel_rfl) ?_
         refine sx_run 1 (todo' := [.code (cd25 [1, 1, 0, 1, 0, 0, 1, 0, 0, 1, 0, 1, 0, 1, 0, 0]), .inLoop (cd25 [1, 1, 0, 1, 0, 0, 1, 0, 0, 1, 0, 1, 0, 1, 0, 0]), .inBlock 2, .code (cd25 [1, 1, 0, 1, 0, 0, 1, 0, 0, 1, 0, 1, 1]), .inBlock 1, .code (cd25 [1, 1, 0, 1, 0, 0, 1, 1]), .inLoop (cd25 [1, 1, 0, 1, 0, 0]), .inBlock 0, .code (cd25 [1, 1, 1])]) (us := []) (by kernel_rfl) ?_
         refine Runs.fill (m := [some (.slice Aa0 (setl t76 t74 (gt t76 (((t16.toNat : Nat) : Int) + t75))).length ca0), none, none, some (.int .i64 (IntKind.i64.wrap (t74 + 1))), some (.slice (vA Aa0 ca0 t16.toNat 2) (a0.length - t16.toNat) (ca0 - t16.toNat)), some (.int .i64 (IntKind.i64.wrap (t75 + 1))), none, none, none, none, none, none, none, none, none, none, none, none, none, none, none, none, none, none, none, none, none, none, none, none, none, none, none, none, none, none, none, none, none, none, none, none, none, none, none, none, none, none, none, none, none, none, none, none, none, none, none, none, none, none, none]) (by kernel_rfl) ?_
         exact ih83 (IntKind.i64.wrap (t74 + 1)) (IntKind.i64.wrap (t75 + 1)) (setl t76 t74 (gt t76 (((t16.toNat : Nat) : Int) + t75))) _ hp119 he81 _ _ hS125
        ·skip
         have hp126 := ite_f hp98 h106
         refine Qs.nil ?_
         intro w127 hS128
         refine sx_run 8 (todo' := [.inLoop (cd25 [1, 1, 0, 1, 0, 0, 1, 0, 0, 1, 0, 1, 0, 1, 0, 0]), .inBlock 2, .code (cd25 [1, 1, 0, 1, 0, 0, 1, 0, 0, 1, 0, 1, 1]), .inBlock 1, .code (cd25 [1, 1, 0, 1, 0, 0, 1, 1]), .inLoop (cd25 [1, 1, 0, 1, 0, 0]), .inBlock 0, .code (cd25 [1, 1, 1])]) (us := [(33, .int .i64 t75), (34, .int .i64 (IntKind.i64.wrap (t75 + 1))), (5, .int .i64 (IntKind.i64.wrap (t75 + 1)))]) (by kernel_rfl) ?_
         refine sx_run 1 (todo' := [.code (cd25 [1, 1, 0, 1, 0, 0, 1, 0, 0, 1, 0, 1, 0, 1, 0, 0]), .inLoop (cd25 [1, 1, 0, 1, 0, 0, 1, 0, 0, 1, 0, 1, 0, 1, 0, 0]), .inBlock 2, .code (cd25 [1, 1, 0, 1, 0, 0, 1, 0, 0, 1, 0, 1, 1]), .inBlock 1, .code (cd25 [1, 1, 0, 1, 0, 0, 1, 1]), .inLoop (cd25 [1, 1, 0, 1, 0, 0]), .inBlock 0, .code (cd25 [1, 1, 1])]) (us := []) (by kernel_rfl) ?_
         refine Runs.fill (m := [some (.slice Aa0 t76.length ca0), none, none, some (.int .i64 t74), some (.slice (vA Aa0 ca0 t16.toNat 2) (a0.length - t16.toNat) (ca0 - t16.toNat)), some (.int .i64 (IntKind.i64.wrap (t75 + 1))), none, none, none, none, none, none, none, none, none, none, none, none, none, none, none, none, none, none, none, none, none, none, none, none, none, none, none, none, none, none, none, none, none, none, none, none, none, none, none, none, none, none, none, none, none, none, none, none, none, none, none, none, none, none, none]) (by kernel_rfl) ?_
         exact ih83 t74 (IntKind.i64.wrap (t75 + 1)) t76 _ hp126 he81 _ _ hS128
       ·skip
        have hp129 := ite_f hb82 h87
        refine sx_run 3 (todo' := [.code (cd25 [1, 1, 0, 1, 0, 0, 1, 0, 0, 1, 0, 1, 1]), .inBlock 1, .code (cd25 [1, 1, 0, 1, 0, 0, 1, 1]), .inLoop (cd25 [1, 1, 0, 1, 0, 0]), .inBlock 0, .code (cd25 [1, 1, 1])]) (us := []) (by kernel_rfl) ?_
        refine Runs.fill (m := [some (.slice Aa0 t76.length ca0), none, none, some (.int .i64 t74), none, none, none, none, none, none, none, none, none, none, none, none, none, none, none, none, none, none, none, none, none, none, none, none, none, none, none, none, none, none, none, none, none, none, none, none, none, none, none, none, none, none, none, none, none, none, none, none, none, none, none, none, none, none, none, none, none]) (by kernel_rfl) ?_
        exact J56 t74 t76 ((Option.some.inj hp129).trans he81) _ _ hS78
      refine Runs.fill (m := [some (.slice Aa0 a0.length ca0), none, none, some (.int .i64 t16), some (.slice (vA Aa0 ca0 t16.toNat 2) (a0.length - t16.toNat) (ca0 - t16.toNat)), some (.int .i64 1), none, none, none, none, none, none, none, none, none, none, none, none, none, none, none, none, none, none, none, none, none, none, none, none, none, none, none, none, none, none, none, none, none, none, none, none, none, none, none, none, none, none, none, none, none, none, none, none, none, none, none, none, none, none, none]) (by kernel_rfl) ?_
      exact L85 t16 1 a0 _ hv50 rfl _ _ hS46
     ·skip
      have hp130 := ite_f hp37 h43
      refine Qs.nil ?_
      intro w131 hS132
      refine sx_run 8 (todo' := [.inLoop (cd25 [1, 1, 0, 1, 0, 0]), .inBlock 0, .code (cd25 [1, 1, 1])]) (us := [(14, .int .i64 t16), (15, .int .i64 (IntKind.i64.wrap (t16 + 1))), (3, .int .i64 (IntKind.i64.wrap (t16 + 1)))]) (by kernel_rfl) ?_
      refine sx_run 1 (todo' := [.code (cd25 [1, 1, 0, 1, 0, 0]), .inLoop (cd25 [1, 1, 0, 1, 0, 0]), .inBlock 0, .code (cd25 [1, 1, 1])]) (us := []) (by kernel_rfl) ?_
      refine Runs.fill (m := [some (.slice Aa0 a0.length ca0), none, none, some (.int .i64 (IntKind.i64.wrap (t16 + 1))), none, none, none, none, none, none, none, none, none, none, none, none, none, none, none, none, none, none, none, none, none, none, none, none, none, none, none, none, none, none, none, none, none, none, none, none, none, none, none, none, none, none, none, none, none, none, none, none, none, none, none, none, none, none, none, none, none]) (by kernel_rfl) ?_
      exact ih23 (IntKind.i64.wrap (t16 + 1)) _ hp130 he21 _ _ hS132
    ·skip
     have hp133 := ite_f hb22 h28
     refine sx_run 3 (todo' := [.code (cd25 [1, 1, 1])]) (us := []) (by kernel_rfl) ?_
     refine Runs.fill (m := [some (.slice Aa0 a0.length ca0), none, none, none, none, none, none, none, none, none, none, none, none, none, none, none, none, none, none, none, none, none, none, none, none, none, none, none, none, none, none, none, none, none, none, none, none, none, none, none, none, none, none, none, none, none, none, none, none, none, none, none, none, none, none, none, none, none, none, none, none]) (by kernel_rfl) ?_
     exact J12 ((Option.some.inj hp133).trans he21) _ _ hS18
   refine Runs.fill (m := [some (.slice Aa0 a0.length ca0), none, none, some (.int .i64 1), none, none, none, none, none, none, none, none, none, none, none, none, none, none, none, none, none, none, none, none, none, none, none, none, none, none, none, none, none, none, none, none, none, none, none, none, none, none, none, none, none, none, none, none, none, none, none, none, none, none, none, none, none, none, none, none, none]) (by kernel_rfl) ?_
   exact L25 1 _ hv7 rfl _ _ hS0

end
end Go.Proofs.Ythkpeoiphkndiaa.K
