/- The walk, part 1: each Go function as a plain Lean function, and that its call answers as that function says. No condition. -/
import Derived.Test.YtmaldbnnighojaaDoorE
import Derived.Test.YtmaldbnnighojaaDoorNM
import Derived.Test.YtmaldbnnighojaaDoorNV
import Derived.Test.YtmaldbnnighojaaDoorNB
set_option linter.unusedVariables false
set_option linter.unusedSimpArgs false
set_option maxRecDepth 100000
namespace Go.Proofs.YtmaldbnnighojaaDoor.K
open Go Go.RowKit
noncomputable section
noncomputable def cd4 (p : List Nat) : Code := sub (bodyOf Tryd.f4) p
def weirlaw06_lent.f (a0 : List api_Node) : Option ((List api_Node) × Nat) :=
  (if 0 ≤ (IntKind.i64.wrap ((a0.length : Int) + 1)) ∧ (IntKind.i64.wrap ((a0.length : Int) + 1)) * 56 ≤ 140737488355328 then (if 0 ≤ (a0.length : Int) ∧ (a0.length : Int) < ((copyl (List.replicate (IntKind.i64.wrap ((a0.length : Int) + 1)).toNat (⟨0, 0, 0, ⟨0, (⟨#[]⟩ : ByteArray)⟩, 0⟩ : api_Node)) a0).length : Int) then (if 0 ≤ (a0.length : Int) ∧ (a0.length : Int) ≤ ((setl (copyl (List.replicate (IntKind.i64.wrap ((a0.length : Int) + 1)).toNat (⟨0, 0, 0, ⟨0, (⟨#[]⟩ : ByteArray)⟩, 0⟩ : api_Node)) a0) (a0.length : Int) (⟨77, 0, 0, (⟨0, (⟨#[]⟩ : ByteArray)⟩ : api_Ref), 0⟩ : api_Node)).length : Int) then some (((setl (copyl (List.replicate (IntKind.i64.wrap ((a0.length : Int) + 1)).toNat (⟨0, 0, 0, ⟨0, (⟨#[]⟩ : ByteArray)⟩, 0⟩ : api_Node)) a0) (a0.length : Int) (⟨77, 0, 0, (⟨0, (⟨#[]⟩ : ByteArray)⟩ : api_Ref), 0⟩ : api_Node)), (a0.length : Int).toNat)) else none) else none) else none)
set_option maxHeartbeats 16000000 in
theorem weirlaw06_lent.ok (a0 : List api_Node) (Aa0 : Option Addr) (ca0 : Nat) {w0 : World} {Z : Zm} {fs : List XObj} {w : World} (hS0 : St w0 Z (fs) w) (ha0 : SlZ (flat enc_api_Node) 6 Z Aa0 ca0 a0) {q0 : List api_Node} {q1 : Nat} (hp0 : weirlaw06_lent.f a0 = some (q0, q1)) :
    Calls Tryd.prog 4 #[.slice Aa0 a0.length ca0] w (fun e w' => ∃ (QA0 : Option Addr) (Qc0 : Nat), e = .returned (.slice QA0 q1 Qc0) ∧ St w0 Z (xrow QA0 Qc0 38 6 (q0.flatMap enc_api_Node) :: fs) w') := by
  refine calls_abs ?_; intro R hR
  unfold weirlaw06_lent.f at hp0
  refine calls_of_runs (fn := Tryd.f4) (c := cd4 []) Tryd.func4 (by kernel_rfl) (al := [.slice Aa0 a0.length ca0]) rfl (n := 19) rfl ?_
  refine sx_run 9 (todo' := [.inRegion (opsOf (cd4 [1, 0])) [3, 4], .code (cd4 [1, 1])]) (us := [(2, .slice none 0 0), (4, .slice Aa0 a0.length ca0), (5, .int .i64 (a0.length : Int)), (6, .int .i64 (IntKind.i64.wrap ((a0.length : Int) + 1)))]) (by kernel_rfl) ?_
  obtain ⟨g1, hp2⟩ := ite_some hp0
  refine r_make (c := (cd4 [1, 0])) (i := 3) (d := (some 7)) (ty := 23) (enc := enc_api_Node) (t := 23) (e := 38) (sz := 6) (bytes := 56) (info := infoOf Tryd.prog 38) (x := (.tmp 6)) (y := (.tmp 6)) (n := (IntKind.i64.wrap ((a0.length : Int) + 1))) (kk := .i64) (kc := .i64) (z := .agg (enc_api_Node (⟨0, 0, 0, ⟨0, (⟨#[]⟩ : ByteArray)⟩, 0⟩ : api_Node)).toArray) (x0 := (⟨0, 0, 0, ⟨0, (⟨#[]⟩ : ByteArray)⟩, 0⟩ : api_Node)) hS0 (by kernel_rfl) (by kernel_rfl) (by kernel_rfl) (by kernel_rfl) (by kernel_rfl) (by kernel_rfl) (by kernel_rfl) (by kernel_rfl) (by kernel_rfl) (by kernel_rfl) len_api_Node (by omega) g1 (by omega) ?_
  intro A3 w4 hS5
  refine Runs.fill (m := [none, none, none, none, none, none, none, some (.slice A3 (IntKind.i64.wrap ((a0.length : Int) + 1)).toNat (IntKind.i64.wrap ((a0.length : Int) + 1)).toNat), none, none, none, none, none, none, none, none, none, none, none, none]) (by kernel_rfl) ?_
  refine Runs.refill (m' := [none, none, none, none, none, none, none, some (.slice A3 (List.replicate (IntKind.i64.wrap ((a0.length : Int) + 1)).toNat (⟨0, 0, 0, ⟨0, (⟨#[]⟩ : ByteArray)⟩, 0⟩ : api_Node)).length ((IntKind.i64.wrap ((a0.length : Int) + 1)).toNat)), none, none, none, none, none, none, none, none, none, none, none, none]) (by simp only [List.length_replicate]) ?_
  refine sx_run 6 (todo' := [.inRegion (opsOf (cd4 [1, 1, 0])) [2], .code (cd4 [1, 1, 1])]) (us := [(3, .slice A3 (List.replicate (IntKind.i64.wrap ((a0.length : Int) + 1)).toNat (⟨0, 0, 0, ⟨0, (⟨#[]⟩ : ByteArray)⟩, 0⟩ : api_Node)).length ((IntKind.i64.wrap ((a0.length : Int) + 1)).toNat)), (8, .slice A3 (List.replicate (IntKind.i64.wrap ((a0.length : Int) + 1)).toNat (⟨0, 0, 0, ⟨0, (⟨#[]⟩ : ByteArray)⟩, 0⟩ : api_Node)).length ((IntKind.i64.wrap ((a0.length : Int) + 1)).toNat)), (9, .slice Aa0 a0.length ca0)]) (by kernel_rfl) ?_
  refine r_copy (c := (cd4 [1, 1, 0])) (i := 2) (d := (some 10)) (ty := 3) (enc := enc_api_Node) (e := 38) (t := 23) (t2 := 23) (sz := 6) (cp := ((IntKind.i64.wrap ((a0.length : Int) + 1)).toNat)) (A := A3) (xs := (List.replicate (IntKind.i64.wrap ((a0.length : Int) + 1)).toNat (⟨0, 0, 0, ⟨0, (⟨#[]⟩ : ByteArray)⟩, 0⟩ : api_Node))) (ys := a0) (s := (.tmp 8)) (x := (.tmp 9)) (xv := .slice Aa0 a0.length ca0) (ycs := a0.flatMap enc_api_Node) hS5 (by kernel_rfl) (by kernel_rfl) (by kernel_rfl) (by kernel_rfl) (by kernel_rfl) (by kernel_rfl) (by omega) len_api_Node one_api_Node (src_slz hS5 ha0 (by omega) len_api_Node) rfl ?_
  intro w7 hS8
  refine Runs.fill (m := [none, none, none, some (.slice A3 (List.replicate (IntKind.i64.wrap ((a0.length : Int) + 1)).toNat (⟨0, 0, 0, ⟨0, (⟨#[]⟩ : ByteArray)⟩, 0⟩ : api_Node)).length ((IntKind.i64.wrap ((a0.length : Int) + 1)).toNat)), none, none, none, some (.slice A3 (List.replicate (IntKind.i64.wrap ((a0.length : Int) + 1)).toNat (⟨0, 0, 0, ⟨0, (⟨#[]⟩ : ByteArray)⟩, 0⟩ : api_Node)).length ((IntKind.i64.wrap ((a0.length : Int) + 1)).toNat)), some (.slice A3 (List.replicate (IntKind.i64.wrap ((a0.length : Int) + 1)).toNat (⟨0, 0, 0, ⟨0, (⟨#[]⟩ : ByteArray)⟩, 0⟩ : api_Node)).length ((IntKind.i64.wrap ((a0.length : Int) + 1)).toNat)), none, none, none, none, none, none, none, none, none, none, none]) (by kernel_rfl) ?_
  refine Runs.refill (m' := [none, none, none, some (.slice A3 (copyl (List.replicate (IntKind.i64.wrap ((a0.length : Int) + 1)).toNat (⟨0, 0, 0, ⟨0, (⟨#[]⟩ : ByteArray)⟩, 0⟩ : api_Node)) a0).length ((IntKind.i64.wrap ((a0.length : Int) + 1)).toNat)), none, none, none, some (.slice A3 (copyl (List.replicate (IntKind.i64.wrap ((a0.length : Int) + 1)).toNat (⟨0, 0, 0, ⟨0, (⟨#[]⟩ : ByteArray)⟩, 0⟩ : api_Node)) a0).length ((IntKind.i64.wrap ((a0.length : Int) + 1)).toNat)), some (.slice A3 (copyl (List.replicate (IntKind.i64.wrap ((a0.length : Int) + 1)).toNat (⟨0, 0, 0, ⟨0, (⟨#[]⟩ : ByteArray)⟩, 0⟩ : api_Node)) a0).length ((IntKind.i64.wrap ((a0.length : Int) + 1)).toNat)), none, none, none, none, none, none, none, none, none, none, none]) (by simp only [copyl_len]) ?_
  refine sx_run 7 (todo' := [.inRegion (opsOf (cd4 [1, 1, 1, 0])) [4, 5], .code (cd4 [1, 1, 1, 1])]) (us := [(11, .slice A3 (copyl (List.replicate (IntKind.i64.wrap ((a0.length : Int) + 1)).toNat (⟨0, 0, 0, ⟨0, (⟨#[]⟩ : ByteArray)⟩, 0⟩ : api_Node)) a0).length ((IntKind.i64.wrap ((a0.length : Int) + 1)).toNat)), (12, .slice Aa0 a0.length ca0), (13, .int .i64 (a0.length : Int)), (14, .agg (enc_api_Node (⟨77, 0, 0, (⟨0, (⟨#[]⟩ : ByteArray)⟩ : api_Ref), 0⟩ : api_Node)).toArray)]) (by kernel_rfl) ?_
  obtain ⟨g9, hp10⟩ := ite_some hp2
  obtain ⟨b11, p12, hA13, -⟩ := (hS8.row 0 rfl).at_ len_api_Node (by omega) g9.1 g9.2
  refine r_indexAddr (c := (cd4 [1, 1, 1, 0])) (i := 4) (d := (some 15)) (ty := 0) (t := 23) (e := 38) (n := (copyl (List.replicate (IntKind.i64.wrap ((a0.length : Int) + 1)).toNat (⟨0, 0, 0, ⟨0, (⟨#[]⟩ : ByteArray)⟩, 0⟩ : api_Node)) a0).length) (cp := (IntKind.i64.wrap ((a0.length : Int) + 1)).toNat) (sz := 6) (kk := .i64) (x := (.tmp 11)) (y := (.tmp 13)) (b := b11) (o' := p12) (j := (a0.length : Int)) (by kernel_rfl) (by kernel_rfl) (slv (by kernel_rfl) hA13) (by kernel_rfl) (by kernel_rfl) (by kernel_rfl) g9.1 g9.2 ?_
  refine r_storeEl (c := (cd4 [1, 1, 1, 0])) (i := 5) (d := none) (ty := 0) (enc := enc_api_Node) (e := 38) (t := 38) (sz := 6) (cp := (IntKind.i64.wrap ((a0.length : Int) + 1)).toNat) (A := A3) (xs := (copyl (List.replicate (IntKind.i64.wrap ((a0.length : Int) + 1)).toNat (⟨0, 0, 0, ⟨0, (⟨#[]⟩ : ByteArray)⟩, 0⟩ : api_Node)) a0)) (x := (.tmp 15)) (y := (.tmp 14)) (el := gt (copyl (List.replicate (IntKind.i64.wrap ((a0.length : Int) + 1)).toNat (⟨0, 0, 0, ⟨0, (⟨#[]⟩ : ByteArray)⟩, 0⟩ : api_Node)) a0) (a0.length : Int)) (el' := (⟨77, 0, 0, (⟨0, (⟨#[]⟩ : ByteArray)⟩ : api_Ref), 0⟩ : api_Node)) (j := (a0.length : Int)) (off := 0) (b := b11) (p := p12) (v := .agg (enc_api_Node (⟨77, 0, 0, (⟨0, (⟨#[]⟩ : ByteArray)⟩ : api_Ref), 0⟩ : api_Node)).toArray) (vs := enc_api_Node (⟨77, 0, 0, (⟨0, (⟨#[]⟩ : ByteArray)⟩ : api_Ref), 0⟩ : api_Node)) (ad := ⟨b11, p12 + (a0.length : Int).toNat * 6, none⟩) hS8 (by kernel_rfl) (by kernel_rfl) (by kernel_rfl) (by simp) (by kernel_rfl) hA13 g9 rfl len_api_Node (by kernel_rfl) (by kernel_rfl) (one_api_Node _) (by rw [len_api_Node]; omega) (by rw [len_api_Node]; omega) (by kernel_rfl) ?_
  intro w15 hS16
  refine Runs.fill (m := [none, none, none, some (.slice A3 (copyl (List.replicate (IntKind.i64.wrap ((a0.length : Int) + 1)).toNat (⟨0, 0, 0, ⟨0, (⟨#[]⟩ : ByteArray)⟩, 0⟩ : api_Node)) a0).length ((IntKind.i64.wrap ((a0.length : Int) + 1)).toNat)), none, none, none, some (.slice A3 (copyl (List.replicate (IntKind.i64.wrap ((a0.length : Int) + 1)).toNat (⟨0, 0, 0, ⟨0, (⟨#[]⟩ : ByteArray)⟩, 0⟩ : api_Node)) a0).length ((IntKind.i64.wrap ((a0.length : Int) + 1)).toNat)), some (.slice A3 (copyl (List.replicate (IntKind.i64.wrap ((a0.length : Int) + 1)).toNat (⟨0, 0, 0, ⟨0, (⟨#[]⟩ : ByteArray)⟩, 0⟩ : api_Node)) a0).length ((IntKind.i64.wrap ((a0.length : Int) + 1)).toNat)), none, none, some (.slice A3 (copyl (List.replicate (IntKind.i64.wrap ((a0.length : Int) + 1)).toNat (⟨0, 0, 0, ⟨0, (⟨#[]⟩ : ByteArray)⟩, 0⟩ : api_Node)) a0).length ((IntKind.i64.wrap ((a0.length : Int) + 1)).toNat)), none, none, none, none, none, none, none, none]) (by kernel_rfl) ?_
  refine Runs.refill (m' := [none, none, none, some (.slice A3 (setl (copyl (List.replicate (IntKind.i64.wrap ((a0.length : Int) + 1)).toNat (⟨0, 0, 0, ⟨0, (⟨#[]⟩ : ByteArray)⟩, 0⟩ : api_Node)) a0) (a0.length : Int) (⟨77, 0, 0, (⟨0, (⟨#[]⟩ : ByteArray)⟩ : api_Ref), 0⟩ : api_Node)).length ((IntKind.i64.wrap ((a0.length : Int) + 1)).toNat)), none, none, none, some (.slice A3 (setl (copyl (List.replicate (IntKind.i64.wrap ((a0.length : Int) + 1)).toNat (⟨0, 0, 0, ⟨0, (⟨#[]⟩ : ByteArray)⟩, 0⟩ : api_Node)) a0) (a0.length : Int) (⟨77, 0, 0, (⟨0, (⟨#[]⟩ : ByteArray)⟩ : api_Ref), 0⟩ : api_Node)).length ((IntKind.i64.wrap ((a0.length : Int) + 1)).toNat)), some (.slice A3 (setl (copyl (List.replicate (IntKind.i64.wrap ((a0.length : Int) + 1)).toNat (⟨0, 0, 0, ⟨0, (⟨#[]⟩ : ByteArray)⟩, 0⟩ : api_Node)) a0) (a0.length : Int) (⟨77, 0, 0, (⟨0, (⟨#[]⟩ : ByteArray)⟩ : api_Ref), 0⟩ : api_Node)).length ((IntKind.i64.wrap ((a0.length : Int) + 1)).toNat)), none, none, some (.slice A3 (setl (copyl (List.replicate (IntKind.i64.wrap ((a0.length : Int) + 1)).toNat (⟨0, 0, 0, ⟨0, (⟨#[]⟩ : ByteArray)⟩, 0⟩ : api_Node)) a0) (a0.length : Int) (⟨77, 0, 0, (⟨0, (⟨#[]⟩ : ByteArray)⟩ : api_Ref), 0⟩ : api_Node)).length ((IntKind.i64.wrap ((a0.length : Int) + 1)).toNat)), none, none, none, none, none, none, none, none]) (by simp only [setl_len]) ?_
  refine sx_run 6 (todo' := [.inRegion (opsOf (cd4 [1, 1, 1, 1, 0])) [3, 4], .code (cd4 [1, 1, 1, 1, 1])]) (us := [(16, .slice A3 (setl (copyl (List.replicate (IntKind.i64.wrap ((a0.length : Int) + 1)).toNat (⟨0, 0, 0, ⟨0, (⟨#[]⟩ : ByteArray)⟩, 0⟩ : api_Node)) a0) (a0.length : Int) (⟨77, 0, 0, (⟨0, (⟨#[]⟩ : ByteArray)⟩ : api_Ref), 0⟩ : api_Node)).length ((IntKind.i64.wrap ((a0.length : Int) + 1)).toNat)), (17, .slice Aa0 a0.length ca0), (18, .int .i64 (a0.length : Int))]) (by kernel_rfl) ?_
  obtain ⟨g17, hp18⟩ := ite_some hp10
  have hc19 := (hS16.row 0 rfl).cap len_api_Node (by omega)
  have g20 : 0 ≤ (a0.length : Int) ∧ (a0.length : Int) ≤ ((IntKind.i64.wrap ((a0.length : Int) + 1)).toNat : Int) := by omega
  refine r_val (c := (cd4 [1, 1, 1, 1, 0])) (i := 3) (d := (some 19)) (ty := 23) (op := .slice 23 (.tmp 16) none (some (.tmp 18)) none) (v := .slice A3 ((a0.length : Int).toNat) ((IntKind.i64.wrap ((a0.length : Int) + 1)).toNat)) (by kernel_rfl) (by kernel_rfl) (fun o ho _ => x_cutSl_nsC (e := 38) (sz := 6) (A := A3) (n := (setl (copyl (List.replicate (IntKind.i64.wrap ((a0.length : Int) + 1)).toNat (⟨0, 0, 0, ⟨0, (⟨#[]⟩ : ByteArray)⟩, 0⟩ : api_Node)) a0) (a0.length : Int) (⟨77, 0, 0, (⟨0, (⟨#[]⟩ : ByteArray)⟩ : api_Ref), 0⟩ : api_Node)).length) (c := ((IntKind.i64.wrap ((a0.length : Int) + 1)).toNat)) (k := .i64) (by kernel_rfl) (by kernel_rfl) (by kernel_rfl) (by kernel_rfl) g20 cut0 ho) ?_
  refine sx_run 2 (todo' := [.code (cd4 [1, 1, 1, 1, 1])]) (us := [(2, .slice A3 ((a0.length : Int).toNat) ((IntKind.i64.wrap ((a0.length : Int) + 1)).toNat))]) (by kernel_rfl) ?_
  refine runs_ret (fn := Tryd.f4) (v := .slice A3 ((a0.length : Int).toNat) ((IntKind.i64.wrap ((a0.length : Int) + 1)).toNat)) Tryd.func4 (by kernel_rfl) ?_
  have hr21 := (Option.some.inj hp18)
  cases hr21
  exact hR _ _ ⟨A3, (IntKind.i64.wrap ((a0.length : Int) + 1)).toNat, rfl, hS16⟩

noncomputable def cd46 (p : List Nat) : Code := sub (bodyOf Tryd.f46) p
def lexis_letter.f (a0 : Int) : Option Bool :=
  (if (decide (a0 ≥ 97)) = true then (if (decide (a0 ≤ 122)) = true then some (true) else (if (decide (a0 ≥ 65)) = true then (if (decide (a0 ≤ 90)) = true then some (true) else (if (a0 == 95) = true then some (true) else some (false))) else (if (a0 == 95) = true then some (true) else some (false)))) else (if (decide (a0 ≥ 65)) = true then (if (decide (a0 ≤ 90)) = true then some (true) else (if (a0 == 95) = true then some (true) else some (false))) else (if (a0 == 95) = true then some (true) else some (false))))
set_option maxHeartbeats 16000000 in
theorem lexis_letter.ok (a0 : Int) {w0 : World} {Z : Zm} {fs : List XObj} {w : World} (hS0 : St w0 Z (fs) w) {q0 : Bool} (hp0 : lexis_letter.f a0 = some q0) :
    Calls Tryd.prog 46 #[.int .u8 a0] w (fun e w' => e = .returned (.bool q0) ∧ St w0 Z (fs) w') := by
  refine calls_abs ?_; intro R hR
  unfold lexis_letter.f at hp0
  refine calls_of_runs (fn := Tryd.f46) (c := cd46 []) Tryd.func46 (by kernel_rfl) (al := [.int .u8 a0]) rfl (n := 20) rfl ?_
  refine sx_split 8 (todo' := [.inRegion (opsOf (cd46 [1, 0])) [2, 3, 4, 5, 6, 7, 8, 9, 10, 11, 12, 13, 14, 15, 16, 17, 18], .code (cd46 [1, 1])]) (us := [(2, .bool false), (3, .int .u8 a0)]) (d := 4) (t := (decide (a0 ≥ 97))) (by kernel_rfl) (fun h1 => ?_) (fun h2 => ?_)
  ·skip
   have hp3 := ite_t hp0 h1
   refine sx_split 3 (todo' := [.inRegion (opsOf (cd46 [1, 0])) [5, 6, 7, 8, 9, 10, 11, 12, 13, 14, 15, 16, 17, 18], .code (cd46 [1, 1])]) (us := [(5, .bool true), (6, .int .u8 a0)]) (d := 7) (t := (decide (a0 ≤ 122))) (by kernel_rfl) (fun h4 => ?_) (fun h5 => ?_)
   ·skip
    have hp6 := ite_t hp3 h4
    refine sx_run 15 (todo' := [.code (cd46 [1, 1])]) (us := [(8, .bool true), (9, .bool true), (10, undef), (11, undef), (12, undef), (13, undef), (14, undef), (15, undef), (16, .bool true), (17, .bool true), (18, undef), (19, undef), (20, .bool true), (2, .bool true)]) (by kernel_rfl) ?_
    refine runs_ret (fn := Tryd.f46) (v := .bool true) Tryd.func46 (by kernel_rfl) ?_
    have hr7 := (Option.some.inj hp6)
    cases hr7
    exact hR _ _ ⟨rfl, hS0⟩
   ·skip
    have hp8 := ite_f hp3 h5
    refine sx_split 4 (todo' := [.inRegion (opsOf (cd46 [1, 0])) [9, 10, 11, 12, 13, 14, 15, 16, 17, 18], .code (cd46 [1, 1])]) (us := [(8, .bool false), (9, .bool false), (10, .int .u8 a0)]) (d := 11) (t := (decide (a0 ≥ 65))) (by kernel_rfl) (fun h9 => ?_) (fun h10 => ?_)
    ·skip
     have hp11 := ite_t hp8 h9
     refine sx_split 3 (todo' := [.inRegion (opsOf (cd46 [1, 0])) [12, 13, 14, 15, 16, 17, 18], .code (cd46 [1, 1])]) (us := [(12, .bool true), (13, .int .u8 a0)]) (d := 14) (t := (decide (a0 ≤ 90))) (by kernel_rfl) (fun h12 => ?_) (fun h13 => ?_)
     ·skip
      have hp14 := ite_t hp11 h12
      refine sx_run 8 (todo' := [.code (cd46 [1, 1])]) (us := [(15, .bool true), (16, .bool true), (17, .bool true), (18, undef), (19, undef), (20, .bool true), (2, .bool true)]) (by kernel_rfl) ?_
      refine runs_ret (fn := Tryd.f46) (v := .bool true) Tryd.func46 (by kernel_rfl) ?_
      have hr15 := (Option.some.inj hp14)
      cases hr15
      exact hR _ _ ⟨rfl, hS0⟩
     ·skip
      have hp16 := ite_f hp11 h13
      refine sx_split 5 (todo' := [.inRegion (opsOf (cd46 [1, 0])) [17, 18], .code (cd46 [1, 1])]) (us := [(15, .bool false), (16, .bool false), (17, .bool false), (18, .int .u8 a0)]) (d := 19) (t := (a0 == 95)) (by kernel_rfl) (fun h17 => ?_) (fun h18 => ?_)
      ·skip
       have hp19 := ite_t hp16 h17
       refine sx_run 3 (todo' := [.code (cd46 [1, 1])]) (us := [(20, .bool true), (2, .bool true)]) (by kernel_rfl) ?_
       refine runs_ret (fn := Tryd.f46) (v := .bool true) Tryd.func46 (by kernel_rfl) ?_
       have hr20 := (Option.some.inj hp19)
       cases hr20
       exact hR _ _ ⟨rfl, hS0⟩
      ·skip
       have hp21 := ite_f hp16 h18
       refine sx_run 3 (todo' := [.code (cd46 [1, 1])]) (us := [(20, .bool false), (2, .bool false)]) (by kernel_rfl) ?_
       refine runs_ret (fn := Tryd.f46) (v := .bool false) Tryd.func46 (by kernel_rfl) ?_
       have hr22 := (Option.some.inj hp21)
       cases hr22
       exact hR _ _ ⟨rfl, hS0⟩
    ·skip
     have hp23 := ite_f hp8 h10
     refine sx_split 8 (todo' := [.inRegion (opsOf (cd46 [1, 0])) [17, 18], .code (cd46 [1, 1])]) (us := [(12, .bool false), (13, undef), (14, undef), (15, .bool false), (16, .bool false), (17, .bool false), (18, .int .u8 a0)]) (d := 19) (t := (a0 == 95)) (by kernel_rfl) (fun h24 => ?_) (fun h25 => ?_)
     ·skip
      have hp26 := ite_t hp23 h24
      refine sx_run 3 (todo' := [.code (cd46 [1, 1])]) (us := [(20, .bool true), (2, .bool true)]) (by kernel_rfl) ?_
      refine runs_ret (fn := Tryd.f46) (v := .bool true) Tryd.func46 (by kernel_rfl) ?_
      have hr27 := (Option.some.inj hp26)
      cases hr27
      exact hR _ _ ⟨rfl, hS0⟩
     ·skip
      have hp28 := ite_f hp23 h25
      refine sx_run 3 (todo' := [.code (cd46 [1, 1])]) (us := [(20, .bool false), (2, .bool false)]) (by kernel_rfl) ?_
      refine runs_ret (fn := Tryd.f46) (v := .bool false) Tryd.func46 (by kernel_rfl) ?_
      have hr29 := (Option.some.inj hp28)
      cases hr29
      exact hR _ _ ⟨rfl, hS0⟩
  ·skip
   have hp30 := ite_f hp0 h2
   refine sx_split 7 (todo' := [.inRegion (opsOf (cd46 [1, 0])) [9, 10, 11, 12, 13, 14, 15, 16, 17, 18], .code (cd46 [1, 1])]) (us := [(5, .bool false), (6, undef), (7, undef), (8, .bool false), (9, .bool false), (10, .int .u8 a0)]) (d := 11) (t := (decide (a0 ≥ 65))) (by kernel_rfl) (fun h31 => ?_) (fun h32 => ?_)
   ·skip
    have hp33 := ite_t hp30 h31
    refine sx_split 3 (todo' := [.inRegion (opsOf (cd46 [1, 0])) [12, 13, 14, 15, 16, 17, 18], .code (cd46 [1, 1])]) (us := [(12, .bool true), (13, .int .u8 a0)]) (d := 14) (t := (decide (a0 ≤ 90))) (by kernel_rfl) (fun h34 => ?_) (fun h35 => ?_)
    ·skip
     have hp36 := ite_t hp33 h34
     refine sx_run 8 (todo' := [.code (cd46 [1, 1])]) (us := [(15, .bool true), (16, .bool true), (17, .bool true), (18, undef), (19, undef), (20, .bool true), (2, .bool true)]) (by kernel_rfl) ?_
     refine runs_ret (fn := Tryd.f46) (v := .bool true) Tryd.func46 (by kernel_rfl) ?_
     have hr37 := (Option.some.inj hp36)
     cases hr37
     exact hR _ _ ⟨rfl, hS0⟩
    ·skip
     have hp38 := ite_f hp33 h35
     refine sx_split 5 (todo' := [.inRegion (opsOf (cd46 [1, 0])) [17, 18], .code (cd46 [1, 1])]) (us := [(15, .bool false), (16, .bool false), (17, .bool false), (18, .int .u8 a0)]) (d := 19) (t := (a0 == 95)) (by kernel_rfl) (fun h39 => ?_) (fun h40 => ?_)
     ·skip
      have hp41 := ite_t hp38 h39
      refine sx_run 3 (todo' := [.code (cd46 [1, 1])]) (us := [(20, .bool true), (2, .bool true)]) (by kernel_rfl) ?_
      refine runs_ret (fn := Tryd.f46) (v := .bool true) Tryd.func46 (by kernel_rfl) ?_
      have hr42 := (Option.some.inj hp41)
      cases hr42
      exact hR _ _ ⟨rfl, hS0⟩
     ·skip
      have hp43 := ite_f hp38 h40
      refine sx_run 3 (todo' := [.code (cd46 [1, 1])]) (us := [(20, .bool false), (2, .bool false)]) (by kernel_rfl) ?_
      refine runs_ret (fn := Tryd.f46) (v := .bool false) Tryd.func46 (by kernel_rfl) ?_
      have hr44 := (Option.some.inj hp43)
      cases hr44
      exact hR _ _ ⟨rfl, hS0⟩
   ·skip
    have hp45 := ite_f hp30 h32
    refine sx_split 8 (todo' := [.inRegion (opsOf (cd46 [1, 0])) [17, 18], .code (cd46 [1, 1])]) (us := [(12, .bool false), (13, undef), (14, undef), (15, .bool false), (16, .bool false), (17, .bool false), (18, .int .u8 a0)]) (d := 19) (t := (a0 == 95)) (by kernel_rfl) (fun h46 => ?_) (fun h47 => ?_)
    ·skip
     have hp48 := ite_t hp45 h46
     refine sx_run 3 (todo' := [.code (cd46 [1, 1])]) (us := [(20, .bool true), (2, .bool true)]) (by kernel_rfl) ?_
     refine runs_ret (fn := Tryd.f46) (v := .bool true) Tryd.func46 (by kernel_rfl) ?_
     have hr49 := (Option.some.inj hp48)
     cases hr49
     exact hR _ _ ⟨rfl, hS0⟩
    ·skip
     have hp50 := ite_f hp45 h47
     refine sx_run 3 (todo' := [.code (cd46 [1, 1])]) (us := [(20, .bool false), (2, .bool false)]) (by kernel_rfl) ?_
     refine runs_ret (fn := Tryd.f46) (v := .bool false) Tryd.func46 (by kernel_rfl) ?_
     have hr51 := (Option.some.inj hp50)
     cases hr51
     exact hR _ _ ⟨rfl, hS0⟩

noncomputable def cd47 (p : List Nat) : Code := sub (bodyOf Tryd.f47) p
def lexis_byteAt.f (a0 : ByteArray) (a1 : Int) : Option Int :=
  (if (decide (a1 < (a0.size : Int))) = true then (if 0 ≤ a1 ∧ a1 < (a0.size : Int) then some ((byt a0 a1)) else none) else some (0))
set_option maxHeartbeats 16000000 in
theorem lexis_byteAt.ok (a0 : ByteArray) (a1 : Int) {w0 : World} {Z : Zm} {fs : List XObj} {w : World} (hS0 : St w0 Z (fs) w) {q0 : Int} (hp0 : lexis_byteAt.f a0 a1 = some q0) :
    Calls Tryd.prog 47 #[.string a0, .int .i64 a1] w (fun e w' => e = .returned (.int .u8 q0) ∧ St w0 Z (fs) w') := by
  refine calls_abs ?_; intro R hR
  unfold lexis_byteAt.f at hp0
  refine calls_of_runs (fn := Tryd.f47) (c := cd47 []) Tryd.func47 (by kernel_rfl) (al := [.string a0, .int .i64 a1]) rfl (n := 10) rfl ?_
  refine sx_split 11 (todo' := [.inRegion (opsOf (cd47 [1, 0, 0])) [], .code (cd47 [1, 0, 1]), .code (cd47 [1, 1])]) (us := [(4, .int .u8 0), (5, .int .i64 a1), (6, .string a0), (7, .int .i64 (a0.size : Int))]) (d := 8) (t := (decide (a1 < (a0.size : Int)))) (by kernel_rfl) (fun h1 => ?_) (fun h2 => ?_)
  ·skip
   have hp3 := ite_t hp0 h1
   refine sx_run 6 (todo' := [.inRegion (opsOf (cd47 [1, 0, 1, 0, 0])) [2, 3], .code (cd47 [1, 0, 1, 0, 1]), .code (cd47 [1, 1])]) (us := [(9, .string a0), (10, .int .i64 a1)]) (by kernel_rfl) ?_
   obtain ⟨g4, hp5⟩ := ite_some hp3
   refine r_val (c := (cd47 [1, 0, 1, 0, 0])) (i := 2) (d := (some 11)) (ty := 5) (op := .index 9 (.tmp 9) (.tmp 10)) (v := .int .u8 (byt a0 a1)) (by kernel_rfl) (by kernel_rfl) (fun o ho _ => x_indexStr (kk := .i64) (by kernel_rfl) (by kernel_rfl) (by kernel_rfl) g4.1 g4.2 ho) ?_
   refine sx_run 2 (todo' := [.code (cd47 [1, 0, 1, 0, 1]), .code (cd47 [1, 1])]) (us := [(4, .int .u8 (byt a0 a1))]) (by kernel_rfl) ?_
   refine runs_ret (fn := Tryd.f47) (v := .int .u8 (byt a0 a1)) Tryd.func47 (by kernel_rfl) ?_
   have hr6 := (Option.some.inj hp5)
   cases hr6
   exact hR _ _ ⟨rfl, hS0⟩
  ·skip
   have hp7 := ite_f hp0 h2
   refine sx_run 7 (todo' := [.code (cd47 [1, 1, 1])]) (us := [(4, .int .u8 0)]) (by kernel_rfl) ?_
   refine runs_ret (fn := Tryd.f47) (v := .int .u8 0) Tryd.func47 (by kernel_rfl) ?_
   have hr8 := (Option.some.inj hp7)
   cases hr8
   exact hR _ _ ⟨rfl, hS0⟩

noncomputable def cd48 (p : List Nat) : Code := sub (bodyOf Tryd.f48) p
def lexis_digit.f (a0 : Int) : Option Bool :=
  (if (decide (a0 ≥ 48)) = true then (if (decide (a0 ≤ 57)) = true then some (true) else some (false)) else some (false))
set_option maxHeartbeats 16000000 in
theorem lexis_digit.ok (a0 : Int) {w0 : World} {Z : Zm} {fs : List XObj} {w : World} (hS0 : St w0 Z (fs) w) {q0 : Bool} (hp0 : lexis_digit.f a0 = some q0) :
    Calls Tryd.prog 48 #[.int .u8 a0] w (fun e w' => e = .returned (.bool q0) ∧ St w0 Z (fs) w') := by
  refine calls_abs ?_; intro R hR
  unfold lexis_digit.f at hp0
  refine calls_of_runs (fn := Tryd.f48) (c := cd48 []) Tryd.func48 (by kernel_rfl) (al := [.int .u8 a0]) rfl (n := 8) rfl ?_
  refine sx_split 8 (todo' := [.inRegion (opsOf (cd48 [1, 0])) [2, 3, 4, 5, 6], .code (cd48 [1, 1])]) (us := [(2, .bool false), (3, .int .u8 a0)]) (d := 4) (t := (decide (a0 ≥ 48))) (by kernel_rfl) (fun h1 => ?_) (fun h2 => ?_)
  ·skip
   have hp3 := ite_t hp0 h1
   refine sx_split 3 (todo' := [.inRegion (opsOf (cd48 [1, 0])) [5, 6], .code (cd48 [1, 1])]) (us := [(5, .bool true), (6, .int .u8 a0)]) (d := 7) (t := (decide (a0 ≤ 57))) (by kernel_rfl) (fun h4 => ?_) (fun h5 => ?_)
   ·skip
    have hp6 := ite_t hp3 h4
    refine sx_run 3 (todo' := [.code (cd48 [1, 1])]) (us := [(8, .bool true), (2, .bool true)]) (by kernel_rfl) ?_
    refine runs_ret (fn := Tryd.f48) (v := .bool true) Tryd.func48 (by kernel_rfl) ?_
    have hr7 := (Option.some.inj hp6)
    cases hr7
    exact hR _ _ ⟨rfl, hS0⟩
   ·skip
    have hp8 := ite_f hp3 h5
    refine sx_run 3 (todo' := [.code (cd48 [1, 1])]) (us := [(8, .bool false), (2, .bool false)]) (by kernel_rfl) ?_
    refine runs_ret (fn := Tryd.f48) (v := .bool false) Tryd.func48 (by kernel_rfl) ?_
    have hr9 := (Option.some.inj hp8)
    cases hr9
    exact hR _ _ ⟨rfl, hS0⟩
  ·skip
   have hp10 := ite_f hp0 h2
   refine sx_run 6 (todo' := [.code (cd48 [1, 1])]) (us := [(5, .bool false), (6, undef), (7, undef), (8, .bool false), (2, .bool false)]) (by kernel_rfl) ?_
   refine runs_ret (fn := Tryd.f48) (v := .bool false) Tryd.func48 (by kernel_rfl) ?_
   have hr11 := (Option.some.inj hp10)
   cases hr11
   exact hR _ _ ⟨rfl, hS0⟩

noncomputable def cd39 (p : List Nat) : Code := sub (bodyOf Tryd.f39) p
def lexis_name.l0 (a0 : ByteArray) (t22 : Int) : Option Int :=
  (lexis_byteAt.f a0 t22 >>= (fun t33 => (lexis_byteAt.f a0 (IntKind.i64.wrap (t22 + 1)) >>= (fun t38 => (if (t22 == (a0.size : Int)) = true then some (t22) else (lexis_letter.f t33 >>= (fun t48 => (((if t48 = true then some (true) else (lexis_digit.f t33 >>= (fun t104 => (if t104 = true then some (true) else (if (t33 == 46) = true then some (true) else some (false)))))) : Option Bool) >>= (fun t56 => (if t56 = true then (lexis_name.l0 a0 (IntKind.i64.wrap (t22 + 1))) else (if (t33 == 43) = true then (lexis_letter.f t38 >>= (fun t66 => (if t66 = true then (lexis_name.l0 a0 (IntKind.i64.wrap (t22 + 1))) else (lexis_digit.f t38 >>= (fun t72 => (if t72 = true then (lexis_name.l0 a0 (IntKind.i64.wrap (t22 + 1))) else some (t22))))))) else (if (t33 == 45) = true then (lexis_letter.f t38 >>= (fun t85 => (if t85 = true then (lexis_name.l0 a0 (IntKind.i64.wrap (t22 + 1))) else (lexis_digit.f t38 >>= (fun t91 => (if t91 = true then (lexis_name.l0 a0 (IntKind.i64.wrap (t22 + 1))) else some (t22))))))) else some (t22)))))))))))))
 partial_fixpoint
def lexis_name.f (a0 : ByteArray) : Option Int :=
  (if (seq a0 (⟨#[]⟩ : ByteArray)) = true then some (0) else (if 0 ≤ (0 : Int) ∧ (0 : Int) < (a0.size : Int) then (lexis_letter.f (byt a0 (0 : Int)) >>= (fun t8 => (if (!t8) = true then some (0) else (lexis_name.l0 a0 1 >>= fun e => some e)))) else none))
set_option maxHeartbeats 16000000 in
theorem lexis_name.ok (a0 : ByteArray) {w0 : World} {Z : Zm} {fs : List XObj} {w : World} (hS0 : St w0 Z (fs) w) {q0 : Int} (hp0 : lexis_name.f a0 = some q0) :
    Calls Tryd.prog 39 #[.string a0] w (fun e w' => e = .returned (.int .i64 q0) ∧ St w0 Z (fs) w') := by
  refine calls_abs ?_; intro R hR
  unfold lexis_name.f at hp0
  refine calls_of_runs (fn := Tryd.f39) (c := cd39 []) Tryd.func39 (by kernel_rfl) (al := [.string a0]) rfl (n := 51) rfl ?_
  refine sx_split 9 (todo' := [.inRegion (opsOf (cd39 [1, 0, 0])) [2, 3, 4, 5, 6, 7], .code (cd39 [1, 0, 1]), .code (cd39 [1, 1])]) (us := [(2, .int .i64 0), (6, .string a0)]) (d := 7) (t := (seq a0 (⟨#[]⟩ : ByteArray))) (by kernel_rfl) (fun h1 => ?_) (fun h2 => ?_)
  ·skip
   have hp3 := ite_t hp0 h1
   refine sx_run 12 (todo' := [.code (cd39 [1, 0, 1, 0, 1]), .code (cd39 [1, 1])]) (us := [(8, .bool true), (9, undef), (10, undef), (11, undef), (12, undef), (13, .bool true), (2, .int .i64 0)]) (by kernel_rfl) ?_
   refine runs_ret (fn := Tryd.f39) (v := .int .i64 0) Tryd.func39 (by kernel_rfl) ?_
   have hr4 := (Option.some.inj hp3)
   cases hr4
   exact hR _ _ ⟨rfl, hS0⟩
  ·skip
   have hp5 := ite_f hp0 h2
   refine sx_run 2 (todo' := [.inRegion (opsOf (cd39 [1, 0, 0])) [4, 5, 6, 7], .code (cd39 [1, 0, 1]), .code (cd39 [1, 1])]) (us := [(8, .bool false), (9, .string a0)]) (by kernel_rfl) ?_
   obtain ⟨g6, hp7⟩ := ite_some hp5
   refine r_val (c := (cd39 [1, 0, 0])) (i := 4) (d := (some 10)) (ty := 5) (op := .index 9 (.tmp 9) (.const (.int .i64 0))) (v := .int .u8 (byt a0 (0 : Int))) (by kernel_rfl) (by kernel_rfl) (fun o ho _ => x_indexStr (kk := .i64) (by kernel_rfl) (by kernel_rfl) (by kernel_rfl) g6.1 g6.2 ho) ?_
   obtain ⟨t8, hr9, hp10⟩ := bind_some' hp7
   refine r_call1 (c := (cd39 [1, 0, 0])) (i := 5) (d := (some 11)) (g := 46) (args := #[.int .u8 (byt a0 (0 : Int))]) (by kernel_rfl) (by kernel_rfl) (by kernel_rfl) (by kernel_rfl) (lexis_letter.ok (byt a0 (0 : Int)) hS0 hr9) ?_
   rintro _ w11 ⟨rfl, hS12⟩
   refine ⟨.bool t8, rfl, ?_⟩
   refine sx_split 1 (todo' := [.inRegion (opsOf (cd39 [1, 0, 0])) [7], .code (cd39 [1, 0, 1]), .code (cd39 [1, 1])]) (us := []) (d := 12) (t := (!t8)) (by kernel_rfl) (fun h13 => ?_) (fun h14 => ?_)
   ·skip
    have hp15 := ite_t hp10 h13
    refine sx_run 7 (todo' := [.code (cd39 [1, 0, 1, 0, 1]), .code (cd39 [1, 1])]) (us := [(13, .bool true), (2, .int .i64 0)]) (by kernel_rfl) ?_
    refine runs_ret (fn := Tryd.f39) (v := .int .i64 0) Tryd.func39 (by kernel_rfl) ?_
    have hr16 := (Option.some.inj hp15)
    cases hr16
    exact hR _ _ ⟨rfl, hS12⟩
   ·skip
    have hp17 := ite_f hp10 h14
    refine sx_run 10 (todo' := [.code (cd39 [1, 1, 1, 0, 0]), .inLoop (cd39 [1, 1, 1, 0, 0]), .inBlock 0]) (us := [(13, .bool false), (3, .int .i64 1)]) (by kernel_rfl) ?_
    obtain ⟨v18, hv19, hp20⟩ := bind_some' hp17
    have hq21 : ∀ x, x = v18 → x = q0 := by intro x hx; subst hx; simpa using hp20
    have L31 : ∀ (t22 : Int) (e26 : Int), lexis_name.l0 a0 t22 = some e26 → e26 = v18 → ∀ (l25 : List Value) (w23 : World) (hS24 : St w0 Z (fs) w23), Runs Tryd.prog 39 [.code (cd39 [1, 1, 1, 0, 0]), .inLoop (cd39 [1, 1, 1, 0, 0]), .inBlock 0] (fill [some (.string a0), none, none, some (.int .i64 t22), none, none, none, none, none, none, none, none, none, none, none, none, none, none, none, none, none, none, none, none, none, none, none, none, none, none, none, none, none, none, none, none, none, none, none, none, none, none, none, none, none, none, none, none, none, none, none, none] l25) w23 R := by
     refine lexis_name.l0.partial_correctness a0 (fun t22 e26 => e26 = v18 → ∀ (l25 : List Value) (w23 : World) (hS24 : St w0 Z (fs) w23), Runs Tryd.prog 39 [.code (cd39 [1, 1, 1, 0, 0]), .inLoop (cd39 [1, 1, 1, 0, 0]), .inBlock 0] (fill [some (.string a0), none, none, some (.int .i64 t22), none, none, none, none, none, none, none, none, none, none, none, none, none, none, none, none, none, none, none, none, none, none, none, none, none, none, none, none, none, none, none, none, none, none, none, none, none, none, none, none, none, none, none, none, none, none, none, none] l25) w23 R) ?_
     intro rec30 ih29 t22 e26 hb28 he27 l25 w23 hS24
     have hq32 : ∀ x, id x = e26 → x = q0 := fun x hx => hq21 x (hx.trans he27)
     refine sx_run 6 (todo' := [.inRegion (opsOf (cd39 [1, 1, 1, 0, 0, 0, 0, 0])) [2, 3, 4, 5, 6, 7, 8], .code (cd39 [1, 1, 1, 0, 0, 0, 0, 1]), .inBlock 1, .code (cd39 [1, 1, 1, 0, 0, 1]), .inLoop (cd39 [1, 1, 1, 0, 0]), .inBlock 0]) (us := [(16, .string a0), (17, .int .i64 t22)]) (by kernel_rfl) ?_
     obtain ⟨t33, hr34, hp35⟩ := bind_some' hb28
     refine r_call1 (c := (cd39 [1, 1, 1, 0, 0, 0, 0, 0])) (i := 2) (d := (some 18)) (g := 47) (args := #[.string a0, .int .i64 t22]) (by kernel_rfl) (by kernel_rfl) (by kernel_rfl) (by kernel_rfl) (lexis_byteAt.ok a0 t22 hS24 hr34) ?_
     rintro _ w36 ⟨rfl, hS37⟩
     refine ⟨.int .u8 t33, rfl, ?_⟩
     refine sx_run 3 (todo' := [.inRegion (opsOf (cd39 [1, 1, 1, 0, 0, 0, 0, 0])) [6, 7, 8], .code (cd39 [1, 1, 1, 0, 0, 0, 0, 1]), .inBlock 1, .code (cd39 [1, 1, 1, 0, 0, 1]), .inLoop (cd39 [1, 1, 1, 0, 0]), .inBlock 0]) (us := [(19, .string a0), (20, .int .i64 t22), (21, .int .i64 (IntKind.i64.wrap (t22 + 1)))]) (by kernel_rfl) ?_
     obtain ⟨t38, hr39, hp40⟩ := bind_some' hp35
     refine r_call1 (c := (cd39 [1, 1, 1, 0, 0, 0, 0, 0])) (i := 6) (d := (some 22)) (g := 47) (args := #[.string a0, .int .i64 (IntKind.i64.wrap (t22 + 1))]) (by kernel_rfl) (by kernel_rfl) (by kernel_rfl) (by kernel_rfl) (lexis_byteAt.ok a0 (IntKind.i64.wrap (t22 + 1)) hS37 hr39) ?_
     rintro _ w41 ⟨rfl, hS42⟩
     refine ⟨.int .u8 t38, rfl, ?_⟩
     refine sx_split 10 (todo' := [.inRegion (opsOf (cd39 [1, 1, 1, 0, 0, 0, 0, 1, 0, 0])) [4], .code (cd39 [1, 1, 1, 0, 0, 0, 0, 1, 0, 1]), .inBlock 2, .inBlock 1, .code (cd39 [1, 1, 1, 0, 0, 1]), .inLoop (cd39 [1, 1, 1, 0, 0]), .inBlock 0]) (us := [(4, .int .u8 t33), (5, .int .u8 t38), (25, .int .i64 t22), (26, .string a0), (27, .int .i64 (a0.size : Int))]) (d := 28) (t := (t22 == (a0.size : Int))) (by kernel_rfl) (fun h43 => ?_) (fun h44 => ?_)
     ·skip
      have hp45 := ite_t hp40 h43
      refine sx_run 8 (todo' := [.code (cd39 [1, 1, 1, 0, 0, 0, 0, 1, 0, 1, 0, 1]), .inBlock 2, .inBlock 1, .code (cd39 [1, 1, 1, 0, 0, 1]), .inLoop (cd39 [1, 1, 1, 0, 0]), .inBlock 0]) (us := [(24, .bool true), (29, .int .i64 t22), (2, .int .i64 t22)]) (by kernel_rfl) ?_
      refine runs_ret (fn := Tryd.f39) (v := .int .i64 t22) Tryd.func39 (by kernel_rfl) ?_
      have hr46 := (hq32 _ (Option.some.inj hp45))
      cases hr46
      exact hR _ _ ⟨rfl, hS42⟩
     ·skip
      have hp47 := ite_f hp40 h44
      refine sx_run 7 (todo' := [.inRegion (opsOf (cd39 [1, 1, 1, 0, 0, 0, 0, 1, 0, 1, 1, 0, 0])) [1, 2], .code (cd39 [1, 1, 1, 0, 0, 0, 0, 1, 0, 1, 1, 0, 1]), .code (cd39 [1, 1, 1, 0, 0, 0, 0, 1, 0, 1, 1, 1]), .inBlock 2, .inBlock 1, .code (cd39 [1, 1, 1, 0, 0, 1]), .inLoop (cd39 [1, 1, 1, 0, 0]), .inBlock 0]) (us := [(24, .bool false), (31, .int .u8 t33)]) (by kernel_rfl) ?_
      obtain ⟨t48, hr49, hp50⟩ := bind_some' hp47
      refine r_call1 (c := (cd39 [1, 1, 1, 0, 0, 0, 0, 1, 0, 1, 1, 0, 0])) (i := 1) (d := (some 32)) (g := 46) (args := #[.int .u8 t33]) (by kernel_rfl) (by kernel_rfl) (by kernel_rfl) (by kernel_rfl) (lexis_letter.ok t33 hS42 hr49) ?_
      rintro _ w51 ⟨rfl, hS52⟩
      refine ⟨.bool t48, rfl, ?_⟩
      refine sx_run 2 (todo' := [.code (cd39 [1, 1, 1, 0, 0, 0, 0, 1, 0, 1, 1, 0, 1]), .code (cd39 [1, 1, 1, 0, 0, 0, 0, 1, 0, 1, 1, 1]), .inBlock 2, .inBlock 1, .code (cd39 [1, 1, 1, 0, 0, 1]), .inLoop (cd39 [1, 1, 1, 0, 0]), .inBlock 0]) (us := [(30, .bool t48)]) (by kernel_rfl) ?_
      obtain ⟨v53, hv54, hp55⟩ := bind_some' hp50
      have J59 : ∀ (t56 : Bool) (he61 : t56 = v53) (l60 : List Value) (w57 : World) (hS58 : St w0 Z (fs) w57), Runs Tryd.prog 39 [.code (cd39 [1, 1, 1, 0, 0, 0, 0, 1, 0, 1, 1, 1]), .inBlock 2, .inBlock 1, .code (cd39 [1, 1, 1, 0, 0, 1]), .inLoop (cd39 [1, 1, 1, 0, 0]), .inBlock 0] (fill [some (.string a0), none, none, some (.int .i64 t22), some (.int .u8 t33), some (.int .u8 t38), none, none, none, none, none, none, none, none, none, none, none, none, none, none, none, none, none, none, none, none, none, none, none, none, some (.bool t56), none, none, none, none, none, none, none, none, none, none, none, none, none, none, none, none, none, none, none, none, none] l60) w57 R := by
       intro t56 he61 l60 w57 hS58
       subst he61
       try dsimp only at hp55
       cases t56
       ·skip
        have hp62 := ite_f hp55 rfl
        refine sx_split 5 (todo' := [.inRegion (opsOf (cd39 [1, 1, 1, 0, 0, 0, 0, 1, 0, 1, 1, 1, 1, 0])) [2, 3, 4, 5, 6, 7, 8, 9, 10, 11, 12, 13, 14], .code (cd39 [1, 1, 1, 0, 0, 0, 0, 1, 0, 1, 1, 1, 1, 1]), .inBlock 2, .inBlock 1, .code (cd39 [1, 1, 1, 0, 0, 1]), .inLoop (cd39 [1, 1, 1, 0, 0]), .inBlock 0]) (us := [(38, .int .u8 t33)]) (d := 39) (t := (t33 == 43)) (by kernel_rfl) (fun h63 => ?_) (fun h64 => ?_)
        ·skip
         have hp65 := ite_t hp62 h63
         refine sx_run 6 (todo' := [.inRegion (opsOf (cd39 [1, 1, 1, 0, 0, 0, 0, 1, 0, 1, 1, 1, 1, 0])) [8, 9, 10, 11, 12, 13, 14], .code (cd39 [1, 1, 1, 0, 0, 0, 0, 1, 0, 1, 1, 1, 1, 1]), .inBlock 2, .inBlock 1, .code (cd39 [1, 1, 1, 0, 0, 1]), .inLoop (cd39 [1, 1, 1, 0, 0]), .inBlock 0]) (us := [(40, .bool true), (41, undef), (42, undef), (43, .bool true), (44, .bool true), (45, .int .u8 t38)]) (by kernel_rfl) ?_
         obtain ⟨t66, hr67, hp68⟩ := bind_some' hp65
         refine r_call1 (c := (cd39 [1, 1, 1, 0, 0, 0, 0, 1, 0, 1, 1, 1, 1, 0])) (i := 8) (d := (some 46)) (g := 46) (args := #[.int .u8 t38]) (by kernel_rfl) (by kernel_rfl) (by kernel_rfl) (by kernel_rfl) (lexis_letter.ok t38 hS58 hr67) ?_
         rintro _ w69 ⟨rfl, hS70⟩
         refine ⟨.bool t66, rfl, ?_⟩
         refine sx_run 1 (todo' := [.inRegion (opsOf (cd39 [1, 1, 1, 0, 0, 0, 0, 1, 0, 1, 1, 1, 1, 0])) [10, 11, 12, 13, 14], .code (cd39 [1, 1, 1, 0, 0, 0, 0, 1, 0, 1, 1, 1, 1, 1]), .inBlock 2, .inBlock 1, .code (cd39 [1, 1, 1, 0, 0, 1]), .inLoop (cd39 [1, 1, 1, 0, 0]), .inBlock 0]) (us := [(47, .bool t66)]) (by kernel_rfl) ?_
         cases t66
         ·skip
          have hp71 := ite_f hp68 rfl
          refine sx_run 1 (todo' := [.inRegion (opsOf (cd39 [1, 1, 1, 0, 0, 0, 0, 1, 0, 1, 1, 1, 1, 0])) [11, 12, 13, 14], .code (cd39 [1, 1, 1, 0, 0, 0, 0, 1, 0, 1, 1, 1, 1, 1]), .inBlock 2, .inBlock 1, .code (cd39 [1, 1, 1, 0, 0, 1]), .inLoop (cd39 [1, 1, 1, 0, 0]), .inBlock 0]) (us := [(48, .int .u8 t38)]) (by kernel_rfl) ?_
          obtain ⟨t72, hr73, hp74⟩ := bind_some' hp71
          refine r_call1 (c := (cd39 [1, 1, 1, 0, 0, 0, 0, 1, 0, 1, 1, 1, 1, 0])) (i := 11) (d := (some 49)) (g := 48) (args := #[.int .u8 t38]) (by kernel_rfl) (by kernel_rfl) (by kernel_rfl) (by kernel_rfl) (lexis_digit.ok t38 hS70 hr73) ?_
          rintro _ w75 ⟨rfl, hS76⟩
          refine ⟨.bool t72, rfl, ?_⟩
          refine sx_run 4 (todo' := [.code (cd39 [1, 1, 1, 0, 0, 0, 0, 1, 0, 1, 1, 1, 1, 1]), .inBlock 2, .inBlock 1, .code (cd39 [1, 1, 1, 0, 0, 1]), .inLoop (cd39 [1, 1, 1, 0, 0]), .inBlock 0]) (us := [(50, .bool t72), (51, .bool t72), (37, .bool t72)]) (by kernel_rfl) ?_
          cases t72
          ·skip
           have hp77 := ite_f hp74 rfl
           refine sx_run 6 (todo' := [.code (cd39 [1, 1, 1, 0, 0, 0, 0, 1, 0, 1, 1, 1, 1, 1, 1, 1]), .inBlock 2, .inBlock 1, .code (cd39 [1, 1, 1, 0, 0, 1]), .inLoop (cd39 [1, 1, 1, 0, 0]), .inBlock 0]) (us := [(23, .int .i64 t22), (2, .int .i64 t22)]) (by kernel_rfl) ?_
           refine runs_ret (fn := Tryd.f39) (v := .int .i64 t22) Tryd.func39 (by kernel_rfl) ?_
           have hr78 := (hq32 _ (Option.some.inj hp77))
           cases hr78
           exact hR _ _ ⟨rfl, hS76⟩
          ·skip
           have hp79 := ite_t hp74 rfl
           refine sx_run 9 (todo' := [.inLoop (cd39 [1, 1, 1, 0, 0]), .inBlock 0]) (us := [(14, .int .i64 t22), (15, .int .i64 (IntKind.i64.wrap (t22 + 1))), (3, .int .i64 (IntKind.i64.wrap (t22 + 1)))]) (by kernel_rfl) ?_
           refine sx_run 1 (todo' := [.code (cd39 [1, 1, 1, 0, 0]), .inLoop (cd39 [1, 1, 1, 0, 0]), .inBlock 0]) (us := []) (by kernel_rfl) ?_
           refine Runs.fill (m := [some (.string a0), none, none, some (.int .i64 (IntKind.i64.wrap (t22 + 1))), none, none, none, none, none, none, none, none, none, none, none, none, none, none, none, none, none, none, none, none, none, none, none, none, none, none, none, none, none, none, none, none, none, none, none, none, none, none, none, none, none, none, none, none, none, none, none, none]) (by kernel_rfl) ?_
           exact ih29 (IntKind.i64.wrap (t22 + 1)) _ hp79 he27 _ _ hS76
         ·skip
          have hp80 := ite_t hp68 rfl
          refine sx_run 15 (todo' := [.inLoop (cd39 [1, 1, 1, 0, 0]), .inBlock 0]) (us := [(48, undef), (49, undef), (50, .bool true), (51, .bool true), (37, .bool true), (14, .int .i64 t22), (15, .int .i64 (IntKind.i64.wrap (t22 + 1))), (3, .int .i64 (IntKind.i64.wrap (t22 + 1)))]) (by kernel_rfl) ?_
          refine sx_run 1 (todo' := [.code (cd39 [1, 1, 1, 0, 0]), .inLoop (cd39 [1, 1, 1, 0, 0]), .inBlock 0]) (us := []) (by kernel_rfl) ?_
          refine Runs.fill (m := [some (.string a0), none, none, some (.int .i64 (IntKind.i64.wrap (t22 + 1))), none, none, none, none, none, none, none, none, none, none, none, none, none, none, none, none, none, none, none, none, none, none, none, none, none, none, none, none, none, none, none, none, none, none, none, none, none, none, none, none, none, none, none, none, none, none, none, none]) (by kernel_rfl) ?_
          exact ih29 (IntKind.i64.wrap (t22 + 1)) _ hp80 he27 _ _ hS70
        ·skip
         have hp81 := ite_f hp62 h64
         refine sx_split 3 (todo' := [.inRegion (opsOf (cd39 [1, 1, 1, 0, 0, 0, 0, 1, 0, 1, 1, 1, 1, 0])) [5, 6, 7, 8, 9, 10, 11, 12, 13, 14], .code (cd39 [1, 1, 1, 0, 0, 0, 0, 1, 0, 1, 1, 1, 1, 1]), .inBlock 2, .inBlock 1, .code (cd39 [1, 1, 1, 0, 0, 1]), .inLoop (cd39 [1, 1, 1, 0, 0]), .inBlock 0]) (us := [(40, .bool false), (41, .int .u8 t33)]) (d := 42) (t := (t33 == 45)) (by kernel_rfl) (fun h82 => ?_) (fun h83 => ?_)
         ·skip
          have hp84 := ite_t hp81 h82
          refine sx_run 3 (todo' := [.inRegion (opsOf (cd39 [1, 1, 1, 0, 0, 0, 0, 1, 0, 1, 1, 1, 1, 0])) [8, 9, 10, 11, 12, 13, 14], .code (cd39 [1, 1, 1, 0, 0, 0, 0, 1, 0, 1, 1, 1, 1, 1]), .inBlock 2, .inBlock 1, .code (cd39 [1, 1, 1, 0, 0, 1]), .inLoop (cd39 [1, 1, 1, 0, 0]), .inBlock 0]) (us := [(43, .bool true), (44, .bool true), (45, .int .u8 t38)]) (by kernel_rfl) ?_
          obtain ⟨t85, hr86, hp87⟩ := bind_some' hp84
          refine r_call1 (c := (cd39 [1, 1, 1, 0, 0, 0, 0, 1, 0, 1, 1, 1, 1, 0])) (i := 8) (d := (some 46)) (g := 46) (args := #[.int .u8 t38]) (by kernel_rfl) (by kernel_rfl) (by kernel_rfl) (by kernel_rfl) (lexis_letter.ok t38 hS58 hr86) ?_
          rintro _ w88 ⟨rfl, hS89⟩
          refine ⟨.bool t85, rfl, ?_⟩
          refine sx_run 1 (todo' := [.inRegion (opsOf (cd39 [1, 1, 1, 0, 0, 0, 0, 1, 0, 1, 1, 1, 1, 0])) [10, 11, 12, 13, 14], .code (cd39 [1, 1, 1, 0, 0, 0, 0, 1, 0, 1, 1, 1, 1, 1]), .inBlock 2, .inBlock 1, .code (cd39 [1, 1, 1, 0, 0, 1]), .inLoop (cd39 [1, 1, 1, 0, 0]), .inBlock 0]) (us := [(47, .bool t85)]) (by kernel_rfl) ?_
          cases t85
          ·skip
           have hp90 := ite_f hp87 rfl
           refine sx_run 1 (todo' := [.inRegion (opsOf (cd39 [1, 1, 1, 0, 0, 0, 0, 1, 0, 1, 1, 1, 1, 0])) [11, 12, 13, 14], .code (cd39 [1, 1, 1, 0, 0, 0, 0, 1, 0, 1, 1, 1, 1, 1]), .inBlock 2, .inBlock 1, .code (cd39 [1, 1, 1, 0, 0, 1]), .inLoop (cd39 [1, 1, 1, 0, 0]), .inBlock 0]) (us := [(48, .int .u8 t38)]) (by kernel_rfl) ?_
           obtain ⟨t91, hr92, hp93⟩ := bind_some' hp90
           refine r_call1 (c := (cd39 [1, 1, 1, 0, 0, 0, 0, 1, 0, 1, 1, 1, 1, 0])) (i := 11) (d := (some 49)) (g := 48) (args := #[.int .u8 t38]) (by kernel_rfl) (by kernel_rfl) (by kernel_rfl) (by kernel_rfl) (lexis_digit.ok t38 hS89 hr92) ?_
           rintro _ w94 ⟨rfl, hS95⟩
           refine ⟨.bool t91, rfl, ?_⟩
           refine sx_run 4 (todo' := [.code (cd39 [1, 1, 1, 0, 0, 0, 0, 1, 0, 1, 1, 1, 1, 1]), .inBlock 2, .inBlock 1, .code (cd39 [1, 1, 1, 0, 0, 1]), .inLoop (cd39 [1, 1, 1, 0, 0]), .inBlock 0]) (us := [(50, .bool t91), (51, .bool t91), (37, .bool t91)]) (by kernel_rfl) ?_
           cases t91
           ·skip
            have hp96 := ite_f hp93 rfl
            refine sx_run 6 (todo' := [.code (cd39 [1, 1, 1, 0, 0, 0, 0, 1, 0, 1, 1, 1, 1, 1, 1, 1]), .inBlock 2, .inBlock 1, .code (cd39 [1, 1, 1, 0, 0, 1]), .inLoop (cd39 [1, 1, 1, 0, 0]), .inBlock 0]) (us := [(23, .int .i64 t22), (2, .int .i64 t22)]) (by kernel_rfl) ?_
            refine runs_ret (fn := Tryd.f39) (v := .int .i64 t22) Tryd.func39 (by kernel_rfl) ?_
            have hr97 := (hq32 _ (Option.some.inj hp96))
            cases hr97
            exact hR _ _ ⟨rfl, hS95⟩
           ·skip
            have hp98 := ite_t hp93 rfl
            refine sx_run 9 (todo' := [.inLoop (cd39 [1, 1, 1, 0, 0]), .inBlock 0]) (us := [(14, .int .i64 t22), (15, .int .i64 (IntKind.i64.wrap (t22 + 1))), (3, .int .i64 (IntKind.i64.wrap (t22 + 1)))]) (by kernel_rfl) ?_
            refine sx_run 1 (todo' := [.code (cd39 [1, 1, 1, 0, 0]), .inLoop (cd39 [1, 1, 1, 0, 0]), .inBlock 0]) (us := []) (by kernel_rfl) ?_
            refine Runs.fill (m := [some (.string a0), none, none, some (.int .i64 (IntKind.i64.wrap (t22 + 1))), none, none, none, none, none, none, none, none, none, none, none, none, none, none, none, none, none, none, none, none, none, none, none, none, none, none, none, none, none, none, none, none, none, none, none, none, none, none, none, none, none, none, none, none, none, none, none, none]) (by kernel_rfl) ?_
            exact ih29 (IntKind.i64.wrap (t22 + 1)) _ hp98 he27 _ _ hS95
          ·skip
           have hp99 := ite_t hp87 rfl
           refine sx_run 15 (todo' := [.inLoop (cd39 [1, 1, 1, 0, 0]), .inBlock 0]) (us := [(48, undef), (49, undef), (50, .bool true), (51, .bool true), (37, .bool true), (14, .int .i64 t22), (15, .int .i64 (IntKind.i64.wrap (t22 + 1))), (3, .int .i64 (IntKind.i64.wrap (t22 + 1)))]) (by kernel_rfl) ?_
           refine sx_run 1 (todo' := [.code (cd39 [1, 1, 1, 0, 0]), .inLoop (cd39 [1, 1, 1, 0, 0]), .inBlock 0]) (us := []) (by kernel_rfl) ?_
           refine Runs.fill (m := [some (.string a0), none, none, some (.int .i64 (IntKind.i64.wrap (t22 + 1))), none, none, none, none, none, none, none, none, none, none, none, none, none, none, none, none, none, none, none, none, none, none, none, none, none, none, none, none, none, none, none, none, none, none, none, none, none, none, none, none, none, none, none, none, none, none, none, none]) (by kernel_rfl) ?_
           exact ih29 (IntKind.i64.wrap (t22 + 1)) _ hp99 he27 _ _ hS89
         ·skip
          have hp100 := ite_f hp81 h83
          refine sx_run 17 (todo' := [.code (cd39 [1, 1, 1, 0, 0, 0, 0, 1, 0, 1, 1, 1, 1, 1, 1, 1]), .inBlock 2, .inBlock 1, .code (cd39 [1, 1, 1, 0, 0, 1]), .inLoop (cd39 [1, 1, 1, 0, 0]), .inBlock 0]) (us := [(43, .bool false), (44, .bool false), (45, undef), (46, undef), (47, undef), (48, undef), (49, undef), (50, undef), (51, .bool false), (37, .bool false), (23, .int .i64 t22), (2, .int .i64 t22)]) (by kernel_rfl) ?_
          refine runs_ret (fn := Tryd.f39) (v := .int .i64 t22) Tryd.func39 (by kernel_rfl) ?_
          have hr101 := (hq32 _ (Option.some.inj hp100))
          cases hr101
          exact hR _ _ ⟨rfl, hS58⟩
       ·skip
        have hp102 := ite_t hp55 rfl
        refine sx_run 9 (todo' := [.inLoop (cd39 [1, 1, 1, 0, 0]), .inBlock 0]) (us := [(14, .int .i64 t22), (15, .int .i64 (IntKind.i64.wrap (t22 + 1))), (3, .int .i64 (IntKind.i64.wrap (t22 + 1)))]) (by kernel_rfl) ?_
        refine sx_run 1 (todo' := [.code (cd39 [1, 1, 1, 0, 0]), .inLoop (cd39 [1, 1, 1, 0, 0]), .inBlock 0]) (us := []) (by kernel_rfl) ?_
        refine Runs.fill (m := [some (.string a0), none, none, some (.int .i64 (IntKind.i64.wrap (t22 + 1))), none, none, none, none, none, none, none, none, none, none, none, none, none, none, none, none, none, none, none, none, none, none, none, none, none, none, none, none, none, none, none, none, none, none, none, none, none, none, none, none, none, none, none, none, none, none, none, none]) (by kernel_rfl) ?_
        exact ih29 (IntKind.i64.wrap (t22 + 1)) _ hp102 he27 _ _ hS58
      cases t48
      ·skip
       have hp103 := ite_f hv54 rfl
       refine sx_run 4 (todo' := [.inRegion (opsOf (cd39 [1, 1, 1, 0, 0, 0, 0, 1, 0, 1, 1, 0, 1, 1, 0])) [1, 2], .code (cd39 [1, 1, 1, 0, 0, 0, 0, 1, 0, 1, 1, 0, 1, 1, 1]), .code (cd39 [1, 1, 1, 0, 0, 0, 0, 1, 0, 1, 1, 1]), .inBlock 2, .inBlock 1, .code (cd39 [1, 1, 1, 0, 0, 1]), .inLoop (cd39 [1, 1, 1, 0, 0]), .inBlock 0]) (us := [(33, .int .u8 t33)]) (by kernel_rfl) ?_
       obtain ⟨t104, hr105, hp106⟩ := bind_some' hp103
       refine r_call1 (c := (cd39 [1, 1, 1, 0, 0, 0, 0, 1, 0, 1, 1, 0, 1, 1, 0])) (i := 1) (d := (some 34)) (g := 48) (args := #[.int .u8 t33]) (by kernel_rfl) (by kernel_rfl) (by kernel_rfl) (by kernel_rfl) (lexis_digit.ok t33 hS52 hr105) ?_
       rintro _ w107 ⟨rfl, hS108⟩
       refine ⟨.bool t104, rfl, ?_⟩
       refine sx_run 2 (todo' := [.code (cd39 [1, 1, 1, 0, 0, 0, 0, 1, 0, 1, 1, 0, 1, 1, 1]), .code (cd39 [1, 1, 1, 0, 0, 0, 0, 1, 0, 1, 1, 1]), .inBlock 2, .inBlock 1, .code (cd39 [1, 1, 1, 0, 0, 1]), .inLoop (cd39 [1, 1, 1, 0, 0]), .inBlock 0]) (us := [(30, .bool t104)]) (by kernel_rfl) ?_
       cases t104
       ·skip
        have hp109 := ite_f hp106 rfl
        refine sx_split 4 (todo' := [.inRegion (opsOf (cd39 [1, 1, 1, 0, 0, 0, 0, 1, 0, 1, 1, 0, 1, 1, 1, 1])) [2], .code (cd39 [1, 1, 1, 0, 0, 0, 0, 1, 0, 1, 1, 1]), .inBlock 2, .inBlock 1, .code (cd39 [1, 1, 1, 0, 0, 1]), .inLoop (cd39 [1, 1, 1, 0, 0]), .inBlock 0]) (us := [(35, .int .u8 t33)]) (d := 36) (t := (t33 == 46)) (by kernel_rfl) (fun h110 => ?_) (fun h111 => ?_)
        ·skip
         have hp112 := ite_t hp109 h110
         refine sx_run 2 (todo' := [.code (cd39 [1, 1, 1, 0, 0, 0, 0, 1, 0, 1, 1, 1]), .inBlock 2, .inBlock 1, .code (cd39 [1, 1, 1, 0, 0, 1]), .inLoop (cd39 [1, 1, 1, 0, 0]), .inBlock 0]) (us := [(30, .bool true)]) (by kernel_rfl) ?_
         refine Runs.fill (m := [some (.string a0), none, none, some (.int .i64 t22), some (.int .u8 t33), some (.int .u8 t38), none, none, none, none, none, none, none, none, none, none, none, none, none, none, none, none, none, none, none, none, none, none, none, none, some (.bool true), none, none, none, none, none, none, none, none, none, none, none, none, none, none, none, none, none, none, none, none, none]) (by kernel_rfl) ?_
         exact J59 true (Option.some.inj hp112) _ _ hS108
        ·skip
         have hp113 := ite_f hp109 h111
         refine sx_run 2 (todo' := [.code (cd39 [1, 1, 1, 0, 0, 0, 0, 1, 0, 1, 1, 1]), .inBlock 2, .inBlock 1, .code (cd39 [1, 1, 1, 0, 0, 1]), .inLoop (cd39 [1, 1, 1, 0, 0]), .inBlock 0]) (us := [(30, .bool false)]) (by kernel_rfl) ?_
         refine Runs.fill (m := [some (.string a0), none, none, some (.int .i64 t22), some (.int .u8 t33), some (.int .u8 t38), none, none, none, none, none, none, none, none, none, none, none, none, none, none, none, none, none, none, none, none, none, none, none, none, some (.bool false), none, none, none, none, none, none, none, none, none, none, none, none, none, none, none, none, none, none, none, none, none]) (by kernel_rfl) ?_
         exact J59 false (Option.some.inj hp113) _ _ hS108
       ·skip
        have hp114 := ite_t hp106 rfl
        refine sx_run 2 (todo' := [.code (cd39 [1, 1, 1, 0, 0, 0, 0, 1, 0, 1, 1, 1]), .inBlock 2, .inBlock 1, .code (cd39 [1, 1, 1, 0, 0, 1]), .inLoop (cd39 [1, 1, 1, 0, 0]), .inBlock 0]) (us := []) (by kernel_rfl) ?_
        refine Runs.fill (m := [some (.string a0), none, none, some (.int .i64 t22), some (.int .u8 t33), some (.int .u8 t38), none, none, none, none, none, none, none, none, none, none, none, none, none, none, none, none, none, none, none, none, none, none, none, none, some (.bool true), none, none, none, none, none, none, none, none, none, none, none, none, none, none, none, none, none, none, none, none, none]) (by kernel_rfl) ?_
        exact J59 true (Option.some.inj hp114) _ _ hS108
      ·skip
       have hp115 := ite_t hv54 rfl
       refine sx_run 2 (todo' := [.code (cd39 [1, 1, 1, 0, 0, 0, 0, 1, 0, 1, 1, 1]), .inBlock 2, .inBlock 1, .code (cd39 [1, 1, 1, 0, 0, 1]), .inLoop (cd39 [1, 1, 1, 0, 0]), .inBlock 0]) (us := []) (by kernel_rfl) ?_
       refine Runs.fill (m := [some (.string a0), none, none, some (.int .i64 t22), some (.int .u8 t33), some (.int .u8 t38), none, none, none, none, none, none, none, none, none, none, none, none, none, none, none, none, none, none, none, none, none, none, none, none, some (.bool true), none, none, none, none, none, none, none, none, none, none, none, none, none, none, none, none, none, none, none, none, none]) (by kernel_rfl) ?_
       exact J59 true (Option.some.inj hp115) _ _ hS52
    refine Runs.fill (m := [some (.string a0), none, none, some (.int .i64 1), none, none, none, none, none, none, none, none, none, none, none, none, none, none, none, none, none, none, none, none, none, none, none, none, none, none, none, none, none, none, none, none, none, none, none, none, none, none, none, none, none, none, none, none, none, none, none, none]) (by kernel_rfl) ?_
    exact L31 1 _ hv19 rfl _ _ hS12

noncomputable def cd34 (p : List Nat) : Code := sub (bodyOf Tryd.f34) p
def lexis_Name.f (a0 : ByteArray) : Option Bool :=
  (if (!seq a0 (⟨#[]⟩ : ByteArray)) = true then (if (decide ((a0.size : Int) ≤ 64)) = true then (lexis_name.f a0 >>= (fun t7 => (if (t7 == (a0.size : Int)) = true then some (true) else some (false)))) else some (false)) else some (false))
set_option maxHeartbeats 16000000 in
theorem lexis_Name.ok (a0 : ByteArray) {w0 : World} {Z : Zm} {fs : List XObj} {w : World} (hS0 : St w0 Z (fs) w) {q0 : Bool} (hp0 : lexis_Name.f a0 = some q0) :
    Calls Tryd.prog 34 #[.string a0] w (fun e w' => e = .returned (.bool q0) ∧ St w0 Z (fs) w') := by
  refine calls_abs ?_; intro R hR
  unfold lexis_Name.f at hp0
  refine calls_of_runs (fn := Tryd.f34) (c := cd34 []) Tryd.func34 (by kernel_rfl) (al := [.string a0]) rfl (n := 16) rfl ?_
  refine sx_split 8 (todo' := [.inRegion (opsOf (cd34 [1, 0])) [2, 3, 4, 5, 6, 7, 8, 9, 10, 11, 12, 13, 14], .code (cd34 [1, 1])]) (us := [(2, .bool false), (3, .string a0)]) (d := 4) (t := (!seq a0 (⟨#[]⟩ : ByteArray))) (by kernel_rfl) (fun h1 => ?_) (fun h2 => ?_)
  ·skip
   have hp3 := ite_t hp0 h1
   refine sx_split 4 (todo' := [.inRegion (opsOf (cd34 [1, 0])) [6, 7, 8, 9, 10, 11, 12, 13, 14], .code (cd34 [1, 1])]) (us := [(5, .bool true), (6, .string a0), (7, .int .i64 (a0.size : Int))]) (d := 8) (t := (decide ((a0.size : Int) ≤ 64))) (by kernel_rfl) (fun h4 => ?_) (fun h5 => ?_)
   ·skip
    have hp6 := ite_t hp3 h4
    refine sx_run 3 (todo' := [.inRegion (opsOf (cd34 [1, 0])) [9, 10, 11, 12, 13, 14], .code (cd34 [1, 1])]) (us := [(9, .bool true), (10, .bool true), (11, .string a0)]) (by kernel_rfl) ?_
    obtain ⟨t7, hr8, hp9⟩ := bind_some' hp6
    refine r_call1 (c := (cd34 [1, 0])) (i := 9) (d := (some 12)) (g := 39) (args := #[.string a0]) (by kernel_rfl) (by kernel_rfl) (by kernel_rfl) (by kernel_rfl) (lexis_name.ok a0 hS0 hr8) ?_
    rintro _ w10 ⟨rfl, hS11⟩
    refine ⟨.int .i64 t7, rfl, ?_⟩
    refine sx_split 3 (todo' := [.inRegion (opsOf (cd34 [1, 0])) [13, 14], .code (cd34 [1, 1])]) (us := [(13, .string a0), (14, .int .i64 (a0.size : Int))]) (d := 15) (t := (t7 == (a0.size : Int))) (by kernel_rfl) (fun h12 => ?_) (fun h13 => ?_)
    ·skip
     have hp14 := ite_t hp9 h12
     refine sx_run 3 (todo' := [.code (cd34 [1, 1])]) (us := [(16, .bool true), (2, .bool true)]) (by kernel_rfl) ?_
     refine runs_ret (fn := Tryd.f34) (v := .bool true) Tryd.func34 (by kernel_rfl) ?_
     have hr15 := (Option.some.inj hp14)
     cases hr15
     exact hR _ _ ⟨rfl, hS11⟩
    ·skip
     have hp16 := ite_f hp9 h13
     refine sx_run 3 (todo' := [.code (cd34 [1, 1])]) (us := [(16, .bool false), (2, .bool false)]) (by kernel_rfl) ?_
     refine runs_ret (fn := Tryd.f34) (v := .bool false) Tryd.func34 (by kernel_rfl) ?_
     have hr17 := (Option.some.inj hp16)
     cases hr17
     exact hR _ _ ⟨rfl, hS11⟩
   ·skip
    have hp18 := ite_f hp3 h5
    refine sx_run 10 (todo' := [.code (cd34 [1, 1])]) (us := [(9, .bool false), (10, .bool false), (11, undef), (12, undef), (13, undef), (14, undef), (15, undef), (16, .bool false), (2, .bool false)]) (by kernel_rfl) ?_
    refine runs_ret (fn := Tryd.f34) (v := .bool false) Tryd.func34 (by kernel_rfl) ?_
    have hr19 := (Option.some.inj hp18)
    cases hr19
    exact hR _ _ ⟨rfl, hS0⟩
  ·skip
   have hp20 := ite_f hp0 h2
   refine sx_run 14 (todo' := [.code (cd34 [1, 1])]) (us := [(5, .bool false), (6, undef), (7, undef), (8, undef), (9, .bool false), (10, .bool false), (11, undef), (12, undef), (13, undef), (14, undef), (15, undef), (16, .bool false), (2, .bool false)]) (by kernel_rfl) ?_
   refine runs_ret (fn := Tryd.f34) (v := .bool false) Tryd.func34 (by kernel_rfl) ?_
   have hr21 := (Option.some.inj hp20)
   cases hr21
   exact hR _ _ ⟨rfl, hS0⟩

noncomputable def cd25 (p : List Nat) : Code := sub (bodyOf Tryd.f25) p
def cond_fields.f (a0 : api_Node) : Option Bool :=
  (if (a0.Op == 2) = true then (if (a0.A == 0) = true then (if (a0.B == 0) = true then (if (decide (a0.Ref.Thread ≥ (-1))) = true then (if (decide (a0.Ref.Thread ≤ 9999)) = true then (lexis_Name.f a0.Ref.Name >>= (fun t20 => some (t20))) else some (false)) else some (false)) else some (false)) else some (false)) else (if (a0.Op == 1) = true then (if (decide (a0 = (⟨1, 0, 0, (⟨0, (⟨#[]⟩ : ByteArray)⟩ : api_Ref), 0⟩ : api_Node))) = true then some (true) else some (false)) else (if (a0.Op == 3) = true then (if (a0.B == 0) = true then (if (decide (a0.Ref = (⟨0, (⟨#[]⟩ : ByteArray)⟩ : api_Ref))) = true then (if (a0.Value == 0) = true then some (true) else some (false)) else some (false)) else some (false)) else (((if (a0.Op == 4) = true then some (true) else (if (a0.Op == 5) = true then some (true) else some (false))) : Option Bool) >>= (fun t79 => (if t79 = true then (if (decide (a0.Ref = (⟨0, (⟨#[]⟩ : ByteArray)⟩ : api_Ref))) = true then (if (a0.Value == 0) = true then some (true) else some (false)) else some (false)) else some (false)))))))
set_option maxHeartbeats 16000000 in
theorem cond_fields.ok (a0 : api_Node) {w0 : World} {Z : Zm} {fs : List XObj} {w : World} (hS0 : St w0 Z (fs) w) {q0 : Bool} (hp0 : cond_fields.f a0 = some q0) :
    Calls Tryd.prog 25 #[.agg (enc_api_Node a0).toArray] w (fun e w' => e = .returned (.bool q0) ∧ St w0 Z (fs) w') := by
  refine calls_abs ?_; intro R hR
  unfold cond_fields.f at hp0
  refine calls_of_runs (fn := Tryd.f25) (c := cd25 []) Tryd.func25 (by kernel_rfl) (al := [.agg (enc_api_Node a0).toArray]) rfl (n := 65) rfl ?_
  refine sx_run 2 (todo' := [.inRegion (opsOf (cd25 [0])) [0, 1], .code (cd25 [1])]) (us := []) (by kernel_rfl) ?_
  refine r_box (c := (cd25 [0])) (i := 0) (d := (some 1)) (ty := 0) (x := (.tmp 0)) (v := .agg (enc_api_Node a0).toArray) (t := 38) (cs := enc_api_Node a0) hS0 (by kernel_rfl) (by kernel_rfl) (by kernel_rfl) (by kernel_rfl) ?_
  intro b1 w2 hS3
  refine sx_run 6 (todo' := [.inRegion (opsOf (cd25 [1, 0, 0])) [1], .code (cd25 [1, 0, 1]), .code (cd25 [1, 1])]) (us := [(2, .bool false), (3, .pointer (some ⟨b1, 0, none⟩))]) (by kernel_rfl) ?_
  refine r_load (c := (cd25 [1, 0, 0])) (i := 1) (d := (some 4)) (ty := 3) (t := 3) (x := (.tmp 3)) (p := ⟨b1, 0, none⟩) (v := .int .i64 a0.Op) (by kernel_rfl) (by kernel_rfl) (by kernel_rfl) (loads_at 0 (hS3.blk 0 rfl) (by kernel_rfl) (by kernel_rfl)) ?_
  refine sx_split 5 (todo' := [.inRegion (opsOf (cd25 [1, 0, 1, 0, 0])) [1], .code (cd25 [1, 0, 1, 0, 1]), .inBlock 0, .code (cd25 [1, 1])]) (us := []) (d := 6) (t := (a0.Op == 2)) (by kernel_rfl) (fun h5 => ?_) (fun h6 => ?_)
  ·skip
   have hp7 := ite_t hp0 h5
   refine sx_run 6 (todo' := [.inRegion (opsOf (cd25 [1, 0, 1, 0, 1, 0, 0])) [1, 2, 3, 4, 5, 6, 7, 8, 9, 10, 11, 12, 13, 14, 15, 16, 17, 18, 19, 20, 21, 22, 23, 24, 25, 26], .code (cd25 [1, 0, 1, 0, 1, 0, 1]), .inBlock 0, .code (cd25 [1, 1])]) (us := [(5, .bool true), (7, .pointer (some ⟨b1, 1, none⟩))]) (by kernel_rfl) ?_
   refine r_load (c := (cd25 [1, 0, 1, 0, 1, 0, 0])) (i := 1) (d := (some 8)) (ty := 3) (t := 3) (x := (.tmp 7)) (p := ⟨b1, 1, none⟩) (v := .int .i64 a0.A) (by kernel_rfl) (by kernel_rfl) (by kernel_rfl) (loads_at 1 (hS3.blk 0 rfl) (by kernel_rfl) (by kernel_rfl)) ?_
   refine sx_split 1 (todo' := [.inRegion (opsOf (cd25 [1, 0, 1, 0, 1, 0, 0])) [3, 4, 5, 6, 7, 8, 9, 10, 11, 12, 13, 14, 15, 16, 17, 18, 19, 20, 21, 22, 23, 24, 25, 26], .code (cd25 [1, 0, 1, 0, 1, 0, 1]), .inBlock 0, .code (cd25 [1, 1])]) (us := []) (d := 9) (t := (a0.A == 0)) (by kernel_rfl) (fun h8 => ?_) (fun h9 => ?_)
   ·skip
    have hp10 := ite_t hp7 h8
    refine sx_run 2 (todo' := [.inRegion (opsOf (cd25 [1, 0, 1, 0, 1, 0, 0])) [5, 6, 7, 8, 9, 10, 11, 12, 13, 14, 15, 16, 17, 18, 19, 20, 21, 22, 23, 24, 25, 26], .code (cd25 [1, 0, 1, 0, 1, 0, 1]), .inBlock 0, .code (cd25 [1, 1])]) (us := [(10, .bool true), (11, .pointer (some ⟨b1, 2, none⟩))]) (by kernel_rfl) ?_
    refine r_load (c := (cd25 [1, 0, 1, 0, 1, 0, 0])) (i := 5) (d := (some 12)) (ty := 3) (t := 3) (x := (.tmp 11)) (p := ⟨b1, 2, none⟩) (v := .int .i64 a0.B) (by kernel_rfl) (by kernel_rfl) (by kernel_rfl) (loads_at 2 (hS3.blk 0 rfl) (by kernel_rfl) (by kernel_rfl)) ?_
    refine sx_split 1 (todo' := [.inRegion (opsOf (cd25 [1, 0, 1, 0, 1, 0, 0])) [7, 8, 9, 10, 11, 12, 13, 14, 15, 16, 17, 18, 19, 20, 21, 22, 23, 24, 25, 26], .code (cd25 [1, 0, 1, 0, 1, 0, 1]), .inBlock 0, .code (cd25 [1, 1])]) (us := []) (d := 13) (t := (a0.B == 0)) (by kernel_rfl) (fun h11 => ?_) (fun h12 => ?_)
    ·skip
     have hp13 := ite_t hp10 h11
     refine sx_run 4 (todo' := [.inRegion (opsOf (cd25 [1, 0, 1, 0, 1, 0, 0])) [11, 12, 13, 14, 15, 16, 17, 18, 19, 20, 21, 22, 23, 24, 25, 26], .code (cd25 [1, 0, 1, 0, 1, 0, 1]), .inBlock 0, .code (cd25 [1, 1])]) (us := [(14, .bool true), (15, .bool true), (16, .pointer (some ⟨b1, 3, none⟩)), (17, .pointer (some ⟨b1, 3, none⟩))]) (by kernel_rfl) ?_
     refine r_load (c := (cd25 [1, 0, 1, 0, 1, 0, 0])) (i := 11) (d := (some 18)) (ty := 3) (t := 3) (x := (.tmp 17)) (p := ⟨b1, 3, none⟩) (v := .int .i64 a0.Ref.Thread) (by kernel_rfl) (by kernel_rfl) (by kernel_rfl) (loads_at 0 (sub_api_Node_Ref (hS3.blk 0 rfl)) (by kernel_rfl) (by kernel_rfl)) ?_
     refine sx_split 1 (todo' := [.inRegion (opsOf (cd25 [1, 0, 1, 0, 1, 0, 0])) [13, 14, 15, 16, 17, 18, 19, 20, 21, 22, 23, 24, 25, 26], .code (cd25 [1, 0, 1, 0, 1, 0, 1]), .inBlock 0, .code (cd25 [1, 1])]) (us := []) (d := 19) (t := (decide (a0.Ref.Thread ≥ (-1)))) (by kernel_rfl) (fun h14 => ?_) (fun h15 => ?_)
     ·skip
      have hp16 := ite_t hp13 h14
      refine sx_run 4 (todo' := [.inRegion (opsOf (cd25 [1, 0, 1, 0, 1, 0, 0])) [17, 18, 19, 20, 21, 22, 23, 24, 25, 26], .code (cd25 [1, 0, 1, 0, 1, 0, 1]), .inBlock 0, .code (cd25 [1, 1])]) (us := [(20, .bool true), (21, .bool true), (22, .pointer (some ⟨b1, 3, none⟩)), (23, .pointer (some ⟨b1, 3, none⟩))]) (by kernel_rfl) ?_
      refine r_load (c := (cd25 [1, 0, 1, 0, 1, 0, 0])) (i := 17) (d := (some 24)) (ty := 3) (t := 3) (x := (.tmp 23)) (p := ⟨b1, 3, none⟩) (v := .int .i64 a0.Ref.Thread) (by kernel_rfl) (by kernel_rfl) (by kernel_rfl) (loads_at 0 (sub_api_Node_Ref (hS3.blk 0 rfl)) (by kernel_rfl) (by kernel_rfl)) ?_
      refine sx_split 1 (todo' := [.inRegion (opsOf (cd25 [1, 0, 1, 0, 1, 0, 0])) [19, 20, 21, 22, 23, 24, 25, 26], .code (cd25 [1, 0, 1, 0, 1, 0, 1]), .inBlock 0, .code (cd25 [1, 1])]) (us := []) (d := 25) (t := (decide (a0.Ref.Thread ≤ 9999))) (by kernel_rfl) (fun h17 => ?_) (fun h18 => ?_)
      ·skip
       have hp19 := ite_t hp16 h17
       refine sx_run 4 (todo' := [.inRegion (opsOf (cd25 [1, 0, 1, 0, 1, 0, 0])) [23, 24, 25, 26], .code (cd25 [1, 0, 1, 0, 1, 0, 1]), .inBlock 0, .code (cd25 [1, 1])]) (us := [(26, .bool true), (27, .bool true), (28, .pointer (some ⟨b1, 3, none⟩)), (29, .pointer (some ⟨b1, 4, none⟩))]) (by kernel_rfl) ?_
       refine r_load (c := (cd25 [1, 0, 1, 0, 1, 0, 0])) (i := 23) (d := (some 30)) (ty := 9) (t := 9) (x := (.tmp 29)) (p := ⟨b1, 4, none⟩) (v := .string a0.Ref.Name) (by kernel_rfl) (by kernel_rfl) (by kernel_rfl) (loads_at 1 (sub_api_Node_Ref (hS3.blk 0 rfl)) (by kernel_rfl) (by kernel_rfl)) ?_
       obtain ⟨t20, hr21, hp22⟩ := bind_some' hp19
       refine r_call1 (c := (cd25 [1, 0, 1, 0, 1, 0, 0])) (i := 24) (d := (some 31)) (g := 34) (args := #[.string a0.Ref.Name]) (by kernel_rfl) (by kernel_rfl) (by kernel_rfl) (by kernel_rfl) (lexis_Name.ok a0.Ref.Name hS3 hr21) ?_
       rintro _ w23 ⟨rfl, hS24⟩
       refine ⟨.bool t20, rfl, ?_⟩
       refine sx_run 3 (todo' := [.code (cd25 [1, 0, 1, 0, 1, 0, 1]), .inBlock 0, .code (cd25 [1, 1])]) (us := [(32, .bool t20), (2, .bool t20)]) (by kernel_rfl) ?_
       have hS25 := hS24.drop
       refine runs_ret (fn := Tryd.f25) (v := .bool t20) Tryd.func25 (by kernel_rfl) ?_
       have hr26 := (Option.some.inj hp22)
       cases hr26
       exact hR _ _ ⟨rfl, hS25⟩
      ·skip
       have hp27 := ite_f hp16 h18
       refine sx_run 9 (todo' := [.code (cd25 [1, 0, 1, 0, 1, 0, 1]), .inBlock 0, .code (cd25 [1, 1])]) (us := [(26, .bool false), (27, .bool false), (28, undef), (29, undef), (30, undef), (31, undef), (32, .bool false), (2, .bool false)]) (by kernel_rfl) ?_
       have hS28 := hS3.drop
       refine runs_ret (fn := Tryd.f25) (v := .bool false) Tryd.func25 (by kernel_rfl) ?_
       have hr29 := (Option.some.inj hp27)
       cases hr29
       exact hR _ _ ⟨rfl, hS28⟩
     ·skip
      have hp30 := ite_f hp13 h15
      refine sx_run 15 (todo' := [.code (cd25 [1, 0, 1, 0, 1, 0, 1]), .inBlock 0, .code (cd25 [1, 1])]) (us := [(20, .bool false), (21, .bool false), (22, undef), (23, undef), (24, undef), (25, undef), (26, .bool false), (27, .bool false), (28, undef), (29, undef), (30, undef), (31, undef), (32, .bool false), (2, .bool false)]) (by kernel_rfl) ?_
      have hS31 := hS3.drop
      refine runs_ret (fn := Tryd.f25) (v := .bool false) Tryd.func25 (by kernel_rfl) ?_
      have hr32 := (Option.some.inj hp30)
      cases hr32
      exact hR _ _ ⟨rfl, hS31⟩
    ·skip
     have hp33 := ite_f hp10 h12
     refine sx_run 21 (todo' := [.code (cd25 [1, 0, 1, 0, 1, 0, 1]), .inBlock 0, .code (cd25 [1, 1])]) (us := [(14, .bool false), (15, .bool false), (16, undef), (17, undef), (18, undef), (19, undef), (20, .bool false), (21, .bool false), (22, undef), (23, undef), (24, undef), (25, undef), (26, .bool false), (27, .bool false), (28, undef), (29, undef), (30, undef), (31, undef), (32, .bool false), (2, .bool false)]) (by kernel_rfl) ?_
     have hS34 := hS3.drop
     refine runs_ret (fn := Tryd.f25) (v := .bool false) Tryd.func25 (by kernel_rfl) ?_
     have hr35 := (Option.some.inj hp33)
     cases hr35
     exact hR _ _ ⟨rfl, hS34⟩
   ·skip
    have hp36 := ite_f hp7 h9
    refine sx_run 25 (todo' := [.code (cd25 [1, 0, 1, 0, 1, 0, 1]), .inBlock 0, .code (cd25 [1, 1])]) (us := [(10, .bool false), (11, undef), (12, undef), (13, undef), (14, .bool false), (15, .bool false), (16, undef), (17, undef), (18, undef), (19, undef), (20, .bool false), (21, .bool false), (22, undef), (23, undef), (24, undef), (25, undef), (26, .bool false), (27, .bool false), (28, undef), (29, undef), (30, undef), (31, undef), (32, .bool false), (2, .bool false)]) (by kernel_rfl) ?_
    have hS37 := hS3.drop
    refine runs_ret (fn := Tryd.f25) (v := .bool false) Tryd.func25 (by kernel_rfl) ?_
    have hr38 := (Option.some.inj hp36)
    cases hr38
    exact hR _ _ ⟨rfl, hS37⟩
  ·skip
   have hp39 := ite_f hp0 h6
   refine sx_split 6 (todo' := [.inRegion (opsOf (cd25 [1, 0, 1, 0, 1, 1, 0])) [1], .code (cd25 [1, 0, 1, 0, 1, 1, 1]), .inBlock 0, .code (cd25 [1, 1])]) (us := [(5, .bool false)]) (d := 34) (t := (a0.Op == 1)) (by kernel_rfl) (fun h40 => ?_) (fun h41 => ?_)
   ·skip
    have hp42 := ite_t hp39 h40
    refine sx_run 5 (todo' := [.inRegion (opsOf (cd25 [1, 0, 1, 0, 1, 1, 1, 0, 0])) [0, 1, 2, 3], .code (cd25 [1, 0, 1, 0, 1, 1, 1, 0, 1]), .inBlock 0, .code (cd25 [1, 1])]) (us := [(33, .bool true)]) (by kernel_rfl) ?_
    refine r_load (c := (cd25 [1, 0, 1, 0, 1, 1, 1, 0, 0])) (i := 0) (d := (some 35)) (ty := 38) (t := 38) (x := (.tmp 1)) (p := ⟨b1, 0, none⟩) (v := .agg (enc_api_Node a0).toArray) (by kernel_rfl) (by kernel_rfl) (by kernel_rfl) (loads_agg (hS3.blk 0 rfl) (by kernel_rfl) (by kernel_rfl)) ?_
    refine sx_run 1 (todo' := [.inRegion (opsOf (cd25 [1, 0, 1, 0, 1, 1, 1, 0, 0])) [2, 3], .code (cd25 [1, 0, 1, 0, 1, 1, 1, 0, 1]), .inBlock 0, .code (cd25 [1, 1])]) (us := [(36, .agg (enc_api_Node (⟨1, 0, 0, (⟨0, (⟨#[]⟩ : ByteArray)⟩ : api_Ref), 0⟩ : api_Node)).toArray)]) (by kernel_rfl) ?_
    refine r_val (c := (cd25 [1, 0, 1, 0, 1, 1, 1, 0, 0])) (i := 2) (d := (some 37)) (ty := 4) (op := .binOp .eql 38 (.tmp 35) (.tmp 36) 38) (v := .bool (decide (a0 = (⟨1, 0, 0, (⟨0, (⟨#[]⟩ : ByteArray)⟩ : api_Ref), 0⟩ : api_Node)))) (by kernel_rfl) (by kernel_rfl) (fun o ho _ => x_eql_api_Node (by kernel_rfl) (by kernel_rfl) ho) ?_
    refine r_split (decide (a0 = (⟨1, 0, 0, (⟨0, (⟨#[]⟩ : ByteArray)⟩ : api_Ref), 0⟩ : api_Node))) (fun h43 => ?_) (fun h44 => ?_)
    ·skip
     have hp45 := ite_t hp42 h43
     refine sx_run 2 (todo' := [.code (cd25 [1, 0, 1, 0, 1, 1, 1, 0, 1]), .inBlock 0, .code (cd25 [1, 1])]) (us := [(2, .bool true)]) (by kernel_rfl) ?_
     have hS46 := hS3.drop
     refine runs_ret (fn := Tryd.f25) (v := .bool true) Tryd.func25 (by kernel_rfl) ?_
     have hr47 := (Option.some.inj hp45)
     cases hr47
     exact hR _ _ ⟨rfl, hS46⟩
    ·skip
     have hp48 := ite_f hp42 h44
     refine sx_run 2 (todo' := [.code (cd25 [1, 0, 1, 0, 1, 1, 1, 0, 1]), .inBlock 0, .code (cd25 [1, 1])]) (us := [(2, .bool false)]) (by kernel_rfl) ?_
     have hS49 := hS3.drop
     refine runs_ret (fn := Tryd.f25) (v := .bool false) Tryd.func25 (by kernel_rfl) ?_
     have hr50 := (Option.some.inj hp48)
     cases hr50
     exact hR _ _ ⟨rfl, hS49⟩
   ·skip
    have hp51 := ite_f hp39 h41
    refine sx_split 6 (todo' := [.inRegion (opsOf (cd25 [1, 0, 1, 0, 1, 1, 1, 1, 0])) [1], .code (cd25 [1, 0, 1, 0, 1, 1, 1, 1, 1]), .inBlock 0, .code (cd25 [1, 1])]) (us := [(33, .bool false)]) (d := 39) (t := (a0.Op == 3)) (by kernel_rfl) (fun h52 => ?_) (fun h53 => ?_)
    ·skip
     have hp54 := ite_t hp51 h52
     refine sx_run 6 (todo' := [.inRegion (opsOf (cd25 [1, 0, 1, 0, 1, 1, 1, 1, 1, 0, 0])) [1, 2, 3, 4, 5, 6, 7, 8, 9, 10, 11, 12, 13, 14], .code (cd25 [1, 0, 1, 0, 1, 1, 1, 1, 1, 0, 1]), .inBlock 0, .code (cd25 [1, 1])]) (us := [(38, .bool true), (40, .pointer (some ⟨b1, 2, none⟩))]) (by kernel_rfl) ?_
     refine r_load (c := (cd25 [1, 0, 1, 0, 1, 1, 1, 1, 1, 0, 0])) (i := 1) (d := (some 41)) (ty := 3) (t := 3) (x := (.tmp 40)) (p := ⟨b1, 2, none⟩) (v := .int .i64 a0.B) (by kernel_rfl) (by kernel_rfl) (by kernel_rfl) (loads_at 2 (hS3.blk 0 rfl) (by kernel_rfl) (by kernel_rfl)) ?_
     refine sx_split 1 (todo' := [.inRegion (opsOf (cd25 [1, 0, 1, 0, 1, 1, 1, 1, 1, 0, 0])) [3, 4, 5, 6, 7, 8, 9, 10, 11, 12, 13, 14], .code (cd25 [1, 0, 1, 0, 1, 1, 1, 1, 1, 0, 1]), .inBlock 0, .code (cd25 [1, 1])]) (us := []) (d := 42) (t := (a0.B == 0)) (by kernel_rfl) (fun h55 => ?_) (fun h56 => ?_)
     ·skip
      have hp57 := ite_t hp54 h55
      refine sx_run 2 (todo' := [.inRegion (opsOf (cd25 [1, 0, 1, 0, 1, 1, 1, 1, 1, 0, 0])) [5, 6, 7, 8, 9, 10, 11, 12, 13, 14], .code (cd25 [1, 0, 1, 0, 1, 1, 1, 1, 1, 0, 1]), .inBlock 0, .code (cd25 [1, 1])]) (us := [(43, .bool true), (44, .pointer (some ⟨b1, 3, none⟩))]) (by kernel_rfl) ?_
      refine r_load (c := (cd25 [1, 0, 1, 0, 1, 1, 1, 1, 1, 0, 0])) (i := 5) (d := (some 45)) (ty := 36) (t := 36) (x := (.tmp 44)) (p := ⟨b1, 3, none⟩) (v := .agg (enc_api_Ref a0.Ref).toArray) (by kernel_rfl) (by kernel_rfl) (by kernel_rfl) (loads_agg (sub_api_Node_Ref (hS3.blk 0 rfl)) (by kernel_rfl) (by kernel_rfl)) ?_
      refine sx_run 1 (todo' := [.inRegion (opsOf (cd25 [1, 0, 1, 0, 1, 1, 1, 1, 1, 0, 0])) [7, 8, 9, 10, 11, 12, 13, 14], .code (cd25 [1, 0, 1, 0, 1, 1, 1, 1, 1, 0, 1]), .inBlock 0, .code (cd25 [1, 1])]) (us := [(46, .agg (enc_api_Ref (⟨0, (⟨#[]⟩ : ByteArray)⟩ : api_Ref)).toArray)]) (by kernel_rfl) ?_
      refine r_val (c := (cd25 [1, 0, 1, 0, 1, 1, 1, 1, 1, 0, 0])) (i := 7) (d := (some 47)) (ty := 4) (op := .binOp .eql 36 (.tmp 45) (.tmp 46) 36) (v := .bool (decide (a0.Ref = (⟨0, (⟨#[]⟩ : ByteArray)⟩ : api_Ref)))) (by kernel_rfl) (by kernel_rfl) (fun o ho _ => x_eql_api_Ref (by kernel_rfl) (by kernel_rfl) ho) ?_
      refine r_split (decide (a0.Ref = (⟨0, (⟨#[]⟩ : ByteArray)⟩ : api_Ref))) (fun h58 => ?_) (fun h59 => ?_)
      ·skip
       have hp60 := ite_t hp57 h58
       refine sx_run 3 (todo' := [.inRegion (opsOf (cd25 [1, 0, 1, 0, 1, 1, 1, 1, 1, 0, 0])) [11, 12, 13, 14], .code (cd25 [1, 0, 1, 0, 1, 1, 1, 1, 1, 0, 1]), .inBlock 0, .code (cd25 [1, 1])]) (us := [(48, .bool true), (49, .bool true), (50, .pointer (some ⟨b1, 5, none⟩))]) (by kernel_rfl) ?_
       refine r_load (c := (cd25 [1, 0, 1, 0, 1, 1, 1, 1, 1, 0, 0])) (i := 11) (d := (some 51)) (ty := 2) (t := 2) (x := (.tmp 50)) (p := ⟨b1, 5, none⟩) (v := .int .i64 a0.Value) (by kernel_rfl) (by kernel_rfl) (by kernel_rfl) (loads_at 5 (hS3.blk 0 rfl) (by kernel_rfl) (by kernel_rfl)) ?_
       refine sx_split 1 (todo' := [.inRegion (opsOf (cd25 [1, 0, 1, 0, 1, 1, 1, 1, 1, 0, 0])) [13, 14], .code (cd25 [1, 0, 1, 0, 1, 1, 1, 1, 1, 0, 1]), .inBlock 0, .code (cd25 [1, 1])]) (us := []) (d := 52) (t := (a0.Value == 0)) (by kernel_rfl) (fun h61 => ?_) (fun h62 => ?_)
       ·skip
        have hp63 := ite_t hp60 h61
        refine sx_run 3 (todo' := [.code (cd25 [1, 0, 1, 0, 1, 1, 1, 1, 1, 0, 1]), .inBlock 0, .code (cd25 [1, 1])]) (us := [(53, .bool true), (2, .bool true)]) (by kernel_rfl) ?_
        have hS64 := hS3.drop
        refine runs_ret (fn := Tryd.f25) (v := .bool true) Tryd.func25 (by kernel_rfl) ?_
        have hr65 := (Option.some.inj hp63)
        cases hr65
        exact hR _ _ ⟨rfl, hS64⟩
       ·skip
        have hp66 := ite_f hp60 h62
        refine sx_run 3 (todo' := [.code (cd25 [1, 0, 1, 0, 1, 1, 1, 1, 1, 0, 1]), .inBlock 0, .code (cd25 [1, 1])]) (us := [(53, .bool false), (2, .bool false)]) (by kernel_rfl) ?_
        have hS67 := hS3.drop
        refine runs_ret (fn := Tryd.f25) (v := .bool false) Tryd.func25 (by kernel_rfl) ?_
        have hr68 := (Option.some.inj hp66)
        cases hr68
        exact hR _ _ ⟨rfl, hS67⟩
      ·skip
       have hp69 := ite_f hp57 h59
       refine sx_run 8 (todo' := [.code (cd25 [1, 0, 1, 0, 1, 1, 1, 1, 1, 0, 1]), .inBlock 0, .code (cd25 [1, 1])]) (us := [(48, .bool false), (49, .bool false), (50, undef), (51, undef), (52, undef), (53, .bool false), (2, .bool false)]) (by kernel_rfl) ?_
       have hS70 := hS3.drop
       refine runs_ret (fn := Tryd.f25) (v := .bool false) Tryd.func25 (by kernel_rfl) ?_
       have hr71 := (Option.some.inj hp69)
       cases hr71
       exact hR _ _ ⟨rfl, hS70⟩
     ·skip
      have hp72 := ite_f hp54 h56
      refine sx_run 13 (todo' := [.code (cd25 [1, 0, 1, 0, 1, 1, 1, 1, 1, 0, 1]), .inBlock 0, .code (cd25 [1, 1])]) (us := [(43, .bool false), (44, undef), (45, undef), (46, undef), (47, undef), (48, .bool false), (49, .bool false), (50, undef), (51, undef), (52, undef), (53, .bool false), (2, .bool false)]) (by kernel_rfl) ?_
      have hS73 := hS3.drop
      refine runs_ret (fn := Tryd.f25) (v := .bool false) Tryd.func25 (by kernel_rfl) ?_
      have hr74 := (Option.some.inj hp72)
      cases hr74
      exact hR _ _ ⟨rfl, hS73⟩
    ·skip
     have hp75 := ite_f hp51 h53
     obtain ⟨v76, hv77, hp78⟩ := bind_some' hp75
     have J82 : ∀ (t79 : Bool) (he84 : t79 = v76) (l83 : List Value) (w80 : World) (hS81 : St w0 Z (xblk b1 38 (enc_api_Node a0) :: fs) w80), Runs Tryd.prog 25 [.code (cd25 [1, 0, 1, 0, 1, 1, 1, 1, 1, 1, 1]), .inBlock 0, .code (cd25 [1, 1])] (fill [none, some (.pointer (some ⟨b1, 0, none⟩)), none, none, none, none, none, none, none, none, none, none, none, none, none, none, none, none, none, none, none, none, none, none, none, none, none, none, none, none, none, none, none, none, none, none, none, none, none, none, none, none, none, none, none, none, none, none, none, none, none, none, none, none, some (.bool t79), none, none, none, none, none, none, none, none, none, none, none] l83) w80 R := by
      intro t79 he84 l83 w80 hS81
      subst he84
      try dsimp only at hp78
      cases t79
      ·skip
       have hp85 := ite_f hp78 rfl
       refine sx_run 7 (todo' := [.code (cd25 [1, 1, 1])]) (us := [(2, .bool false)]) (by kernel_rfl) ?_
       have hS86 := hS81.drop
       refine runs_ret (fn := Tryd.f25) (v := .bool false) Tryd.func25 (by kernel_rfl) ?_
       have hr87 := (Option.some.inj hp85)
       cases hr87
       exact hR _ _ ⟨rfl, hS86⟩
      ·skip
       have hp88 := ite_t hp78 rfl
       refine sx_run 4 (todo' := [.inRegion (opsOf (cd25 [1, 0, 1, 0, 1, 1, 1, 1, 1, 1, 1, 0, 0])) [1, 2, 3, 4, 5, 6, 7, 8, 9], .code (cd25 [1, 0, 1, 0, 1, 1, 1, 1, 1, 1, 1, 0, 1]), .inBlock 0, .code (cd25 [1, 1])]) (us := [(57, .pointer (some ⟨b1, 3, none⟩))]) (by kernel_rfl) ?_
       refine r_load (c := (cd25 [1, 0, 1, 0, 1, 1, 1, 1, 1, 1, 1, 0, 0])) (i := 1) (d := (some 58)) (ty := 36) (t := 36) (x := (.tmp 57)) (p := ⟨b1, 3, none⟩) (v := .agg (enc_api_Ref a0.Ref).toArray) (by kernel_rfl) (by kernel_rfl) (by kernel_rfl) (loads_agg (sub_api_Node_Ref (hS81.blk 0 rfl)) (by kernel_rfl) (by kernel_rfl)) ?_
       refine sx_run 1 (todo' := [.inRegion (opsOf (cd25 [1, 0, 1, 0, 1, 1, 1, 1, 1, 1, 1, 0, 0])) [3, 4, 5, 6, 7, 8, 9], .code (cd25 [1, 0, 1, 0, 1, 1, 1, 1, 1, 1, 1, 0, 1]), .inBlock 0, .code (cd25 [1, 1])]) (us := [(59, .agg (enc_api_Ref (⟨0, (⟨#[]⟩ : ByteArray)⟩ : api_Ref)).toArray)]) (by kernel_rfl) ?_
       refine r_val (c := (cd25 [1, 0, 1, 0, 1, 1, 1, 1, 1, 1, 1, 0, 0])) (i := 3) (d := (some 60)) (ty := 4) (op := .binOp .eql 36 (.tmp 58) (.tmp 59) 36) (v := .bool (decide (a0.Ref = (⟨0, (⟨#[]⟩ : ByteArray)⟩ : api_Ref)))) (by kernel_rfl) (by kernel_rfl) (fun o ho _ => x_eql_api_Ref (by kernel_rfl) (by kernel_rfl) ho) ?_
       refine r_split (decide (a0.Ref = (⟨0, (⟨#[]⟩ : ByteArray)⟩ : api_Ref))) (fun h89 => ?_) (fun h90 => ?_)
       ·skip
        have hp91 := ite_t hp88 h89
        refine sx_run 2 (todo' := [.inRegion (opsOf (cd25 [1, 0, 1, 0, 1, 1, 1, 1, 1, 1, 1, 0, 0])) [6, 7, 8, 9], .code (cd25 [1, 0, 1, 0, 1, 1, 1, 1, 1, 1, 1, 0, 1]), .inBlock 0, .code (cd25 [1, 1])]) (us := [(61, .bool true), (62, .pointer (some ⟨b1, 5, none⟩))]) (by kernel_rfl) ?_
        refine r_load (c := (cd25 [1, 0, 1, 0, 1, 1, 1, 1, 1, 1, 1, 0, 0])) (i := 6) (d := (some 63)) (ty := 2) (t := 2) (x := (.tmp 62)) (p := ⟨b1, 5, none⟩) (v := .int .i64 a0.Value) (by kernel_rfl) (by kernel_rfl) (by kernel_rfl) (loads_at 5 (hS81.blk 0 rfl) (by kernel_rfl) (by kernel_rfl)) ?_
        refine sx_split 1 (todo' := [.inRegion (opsOf (cd25 [1, 0, 1, 0, 1, 1, 1, 1, 1, 1, 1, 0, 0])) [8, 9], .code (cd25 [1, 0, 1, 0, 1, 1, 1, 1, 1, 1, 1, 0, 1]), .inBlock 0, .code (cd25 [1, 1])]) (us := []) (d := 64) (t := (a0.Value == 0)) (by kernel_rfl) (fun h92 => ?_) (fun h93 => ?_)
        ·skip
         have hp94 := ite_t hp91 h92
         refine sx_run 3 (todo' := [.code (cd25 [1, 0, 1, 0, 1, 1, 1, 1, 1, 1, 1, 0, 1]), .inBlock 0, .code (cd25 [1, 1])]) (us := [(65, .bool true), (2, .bool true)]) (by kernel_rfl) ?_
         have hS95 := hS81.drop
         refine runs_ret (fn := Tryd.f25) (v := .bool true) Tryd.func25 (by kernel_rfl) ?_
         have hr96 := (Option.some.inj hp94)
         cases hr96
         exact hR _ _ ⟨rfl, hS95⟩
        ·skip
         have hp97 := ite_f hp91 h93
         refine sx_run 3 (todo' := [.code (cd25 [1, 0, 1, 0, 1, 1, 1, 1, 1, 1, 1, 0, 1]), .inBlock 0, .code (cd25 [1, 1])]) (us := [(65, .bool false), (2, .bool false)]) (by kernel_rfl) ?_
         have hS98 := hS81.drop
         refine runs_ret (fn := Tryd.f25) (v := .bool false) Tryd.func25 (by kernel_rfl) ?_
         have hr99 := (Option.some.inj hp97)
         cases hr99
         exact hR _ _ ⟨rfl, hS98⟩
       ·skip
        have hp100 := ite_f hp88 h90
        refine sx_run 7 (todo' := [.code (cd25 [1, 0, 1, 0, 1, 1, 1, 1, 1, 1, 1, 0, 1]), .inBlock 0, .code (cd25 [1, 1])]) (us := [(61, .bool false), (62, undef), (63, undef), (64, undef), (65, .bool false), (2, .bool false)]) (by kernel_rfl) ?_
        have hS101 := hS81.drop
        refine runs_ret (fn := Tryd.f25) (v := .bool false) Tryd.func25 (by kernel_rfl) ?_
        have hr102 := (Option.some.inj hp100)
        cases hr102
        exact hR _ _ ⟨rfl, hS101⟩
     refine sx_split 7 (todo' := [.inRegion (opsOf (cd25 [1, 0, 1, 0, 1, 1, 1, 1, 1, 1, 0, 0])) [1], .code (cd25 [1, 0, 1, 0, 1, 1, 1, 1, 1, 1, 0, 1]), .code (cd25 [1, 0, 1, 0, 1, 1, 1, 1, 1, 1, 1]), .inBlock 0, .code (cd25 [1, 1])]) (us := [(38, .bool false)]) (d := 55) (t := (a0.Op == 4)) (by kernel_rfl) (fun h103 => ?_) (fun h104 => ?_)
     ·skip
      have hp105 := ite_t hv77 h103
      refine sx_run 4 (todo' := [.code (cd25 [1, 0, 1, 0, 1, 1, 1, 1, 1, 1, 1]), .inBlock 0, .code (cd25 [1, 1])]) (us := [(54, .bool true)]) (by kernel_rfl) ?_
      refine Runs.fill (m := [none, some (.pointer (some ⟨b1, 0, none⟩)), none, none, none, none, none, none, none, none, none, none, none, none, none, none, none, none, none, none, none, none, none, none, none, none, none, none, none, none, none, none, none, none, none, none, none, none, none, none, none, none, none, none, none, none, none, none, none, none, none, none, none, none, some (.bool true), none, none, none, none, none, none, none, none, none, none, none]) (by kernel_rfl) ?_
      exact J82 true (Option.some.inj hp105) _ _ hS3
     ·skip
      have hp106 := ite_f hv77 h104
      refine sx_split 5 (todo' := [.inRegion (opsOf (cd25 [1, 0, 1, 0, 1, 1, 1, 1, 1, 1, 0, 1, 1])) [1], .code (cd25 [1, 0, 1, 0, 1, 1, 1, 1, 1, 1, 1]), .inBlock 0, .code (cd25 [1, 1])]) (us := [(54, .bool false)]) (d := 56) (t := (a0.Op == 5)) (by kernel_rfl) (fun h107 => ?_) (fun h108 => ?_)
      ·skip
       have hp109 := ite_t hp106 h107
       refine sx_run 2 (todo' := [.code (cd25 [1, 0, 1, 0, 1, 1, 1, 1, 1, 1, 1]), .inBlock 0, .code (cd25 [1, 1])]) (us := [(54, .bool true)]) (by kernel_rfl) ?_
       refine Runs.fill (m := [none, some (.pointer (some ⟨b1, 0, none⟩)), none, none, none, none, none, none, none, none, none, none, none, none, none, none, none, none, none, none, none, none, none, none, none, none, none, none, none, none, none, none, none, none, none, none, none, none, none, none, none, none, none, none, none, none, none, none, none, none, none, none, none, none, some (.bool true), none, none, none, none, none, none, none, none, none, none, none]) (by kernel_rfl) ?_
       exact J82 true (Option.some.inj hp109) _ _ hS3
      ·skip
       have hp110 := ite_f hp106 h108
       refine sx_run 2 (todo' := [.code (cd25 [1, 0, 1, 0, 1, 1, 1, 1, 1, 1, 1]), .inBlock 0, .code (cd25 [1, 1])]) (us := [(54, .bool false)]) (by kernel_rfl) ?_
       refine Runs.fill (m := [none, some (.pointer (some ⟨b1, 0, none⟩)), none, none, none, none, none, none, none, none, none, none, none, none, none, none, none, none, none, none, none, none, none, none, none, none, none, none, none, none, none, none, none, none, none, none, none, none, none, none, none, none, none, none, none, none, none, none, none, none, none, none, none, none, some (.bool false), none, none, none, none, none, none, none, none, none, none, none]) (by kernel_rfl) ?_
       exact J82 false (Option.some.inj hp110) _ _ hS3

noncomputable def cd14 (p : List Nat) : Code := sub (bodyOf Tryd.f14) p
def cond_makes.l0 (a0 : List api_Node) (t41 : Int) (t42 : List Int) : Option (Sum (List Int) Bool) :=
  (if (decide (t41 < (a0.length : Int))) = true then (if 0 ≤ t41 ∧ t41 < (a0.length : Int) then (cond_fields.f (gt a0 t41) >>= (fun t68 => (if (!t68) = true then some (.inr (false)) else (if (((gt a0 t41).Op) == 3) = true then (if (t41 == 0) = true then some (.inr (false)) else (if (((gt a0 t41).A) != (IntKind.i64.wrap (t41 - 1))) = true then some (.inr (false)) else (if 0 ≤ ((gt a0 t41).A) ∧ ((gt a0 t41).A) < (t42.length : Int) then (if 0 ≤ t41 ∧ t41 < (t42.length : Int) then (cond_makes.l0 a0 (IntKind.i64.wrap (t41 + 1)) (setl t42 t41 (gt t42 ((gt a0 t41).A)))) else none) else none))) else (((if (((gt a0 t41).Op) == 4) = true then some (true) else (if (((gt a0 t41).Op) == 5) = true then some (true) else some (false))) : Option Bool) >>= (fun t118 => (if t118 = true then (if (t41 == 0) = true then some (.inr (false)) else (if (((gt a0 t41).B) != (IntKind.i64.wrap (t41 - 1))) = true then some (.inr (false)) else (if 0 ≤ ((gt a0 t41).B) ∧ ((gt a0 t41).B) < (t42.length : Int) then (if ((gt t42 ((gt a0 t41).B)) == 0) = true then some (.inr (false)) else (if 0 ≤ ((gt a0 t41).B) ∧ ((gt a0 t41).B) < (t42.length : Int) then (if (((gt a0 t41).A) != (IntKind.i64.wrap ((gt t42 ((gt a0 t41).B)) - 1))) = true then some (.inr (false)) else (if 0 ≤ ((gt a0 t41).A) ∧ ((gt a0 t41).A) < (t42.length : Int) then (if 0 ≤ t41 ∧ t41 < (t42.length : Int) then (cond_makes.l0 a0 (IntKind.i64.wrap (t41 + 1)) (setl t42 t41 (gt t42 ((gt a0 t41).A)))) else none) else none)) else none)) else none))) else (if 0 ≤ t41 ∧ t41 < (t42.length : Int) then (cond_makes.l0 a0 (IntKind.i64.wrap (t41 + 1)) (setl t42 t41 t41)) else none)))))))) else none) else some (.inl t42))
 partial_fixpoint
def cond_makes.f (a0 : List api_Node) : Option Bool :=
  (if (decide ((a0.length : Int) < 1)) = true then some (false) else (if (decide ((a0.length : Int) > 1024)) = true then some (false) else (if 0 ≤ (a0.length : Int) ∧ (a0.length : Int) * 8 ≤ 140737488355328 then (cond_makes.l0 a0 0 (List.replicate (a0.length : Int).toNat (0 : Int)) >>= (fun | .inl t20 => (if 0 ≤ (IntKind.i64.wrap ((a0.length : Int) - 1)) ∧ (IntKind.i64.wrap ((a0.length : Int) - 1)) < (t20.length : Int) then (if ((gt t20 (IntKind.i64.wrap ((a0.length : Int) - 1))) == 0) = true then some (true) else some (false)) else none) | .inr e => some e)) else none)))
set_option maxHeartbeats 16000000 in
theorem cond_makes.ok (a0 : List api_Node) (Aa0 : Option Addr) (ca0 : Nat) {w0 : World} {Z : Zm} {fs : List XObj} {w : World} (hS0 : St w0 Z (fs) w) (ha0 : SlZ (flat enc_api_Node) 6 Z Aa0 ca0 a0) {q0 : Bool} (hp0 : cond_makes.f a0 = some q0) :
    Calls Tryd.prog 14 #[.slice Aa0 a0.length ca0] w (fun e w' => e = .returned (.bool q0) ∧ St w0 Z (fs) w') := by
  refine calls_abs ?_; intro R hR
  unfold cond_makes.f at hp0
  refine calls_of_runs (fn := Tryd.f14) (c := cd14 []) Tryd.func14 (by kernel_rfl) (al := [.slice Aa0 a0.length ca0]) rfl (n := 98) rfl ?_
  refine sx_split 10 (todo' := [.inRegion (opsOf (cd14 [1, 0, 0])) [3, 4, 5, 6, 7], .code (cd14 [1, 0, 1]), .code (cd14 [1, 1])]) (us := [(2, .bool false), (6, .slice Aa0 a0.length ca0), (7, .int .i64 (a0.length : Int))]) (d := 8) (t := (decide ((a0.length : Int) < 1))) (by kernel_rfl) (fun h1 => ?_) (fun h2 => ?_)
  ·skip
   have hp3 := ite_t hp0 h1
   refine sx_run 11 (todo' := [.code (cd14 [1, 0, 1, 0, 1]), .code (cd14 [1, 1])]) (us := [(9, .bool true), (10, undef), (11, undef), (12, undef), (13, .bool true), (2, .bool false)]) (by kernel_rfl) ?_
   refine runs_ret (fn := Tryd.f14) (v := .bool false) Tryd.func14 (by kernel_rfl) ?_
   have hr4 := (Option.some.inj hp3)
   cases hr4
   exact hR _ _ ⟨rfl, hS0⟩
  ·skip
   have hp5 := ite_f hp0 h2
   refine sx_split 4 (todo' := [.inRegion (opsOf (cd14 [1, 0, 0])) [7], .code (cd14 [1, 0, 1]), .code (cd14 [1, 1])]) (us := [(9, .bool false), (10, .slice Aa0 a0.length ca0), (11, .int .i64 (a0.length : Int))]) (d := 12) (t := (decide ((a0.length : Int) > 1024))) (by kernel_rfl) (fun h6 => ?_) (fun h7 => ?_)
   ·skip
    have hp8 := ite_t hp5 h6
    refine sx_run 7 (todo' := [.code (cd14 [1, 0, 1, 0, 1]), .code (cd14 [1, 1])]) (us := [(13, .bool true), (2, .bool false)]) (by kernel_rfl) ?_
    refine runs_ret (fn := Tryd.f14) (v := .bool false) Tryd.func14 (by kernel_rfl) ?_
    have hr9 := (Option.some.inj hp8)
    cases hr9
    exact hR _ _ ⟨rfl, hS0⟩
   ·skip
    have hp10 := ite_f hp5 h7
    refine sx_run 8 (todo' := [.inRegion (opsOf (cd14 [1, 1, 0])) [2, 3], .code (cd14 [1, 1, 1])]) (us := [(13, .bool false), (14, .slice Aa0 a0.length ca0), (15, .int .i64 (a0.length : Int))]) (by kernel_rfl) ?_
    obtain ⟨g11, hp12⟩ := ite_some hp10
    refine r_make (c := (cd14 [1, 1, 0])) (i := 2) (d := (some 16)) (ty := 59) (enc := (encI .i64)) (t := 59) (e := 3) (sz := 1) (bytes := 8) (info := infoOf Tryd.prog 3) (x := (.tmp 15)) (y := (.tmp 15)) (n := (a0.length : Int)) (kk := .i64) (kc := .i64) (z := .int .i64 0) (x0 := 0) hS0 (by kernel_rfl) (by kernel_rfl) (by kernel_rfl) (by kernel_rfl) (by kernel_rfl) (by kernel_rfl) (by kernel_rfl) (by kernel_rfl) (by kernel_rfl) (by kernel_rfl) (len_encI .i64) (by omega) g11 (by omega) ?_
    intro A13 w14 hS15
    refine Runs.fill (m := [none, none, none, none, none, none, none, none, none, none, none, none, none, none, none, none, some (.slice A13 (a0.length : Int).toNat (a0.length : Int).toNat), none, none, none, none, none, none, none, none, none, none, none, none, none, none, none, none, none, none, none, none, none, none, none, none, none, none, none, none, none, none, none, none, none, none, none, none, none, none, none, none, none, none, none, none, none, none, none, none, none, none, none, none, none, none, none, none, none, none, none, none, none, none, none, none, none, none, none, none, none, none, none, none, none, none, none, none, none, none, none, none, none, none]) (by kernel_rfl) ?_
    refine Runs.refill (m' := [none, none, none, none, none, none, none, none, none, none, none, none, none, none, none, none, some (.slice A13 (List.replicate (a0.length : Int).toNat (0 : Int)).length ((a0.length : Int).toNat)), none, none, none, none, none, none, none, none, none, none, none, none, none, none, none, none, none, none, none, none, none, none, none, none, none, none, none, none, none, none, none, none, none, none, none, none, none, none, none, none, none, none, none, none, none, none, none, none, none, none, none, none, none, none, none, none, none, none, none, none, none, none, none, none, none, none, none, none, none, none, none, none, none, none, none, none, none, none, none, none, none, none]) (by simp only [List.length_replicate]) ?_
    refine sx_run 11 (todo' := [.code (cd14 [1, 1, 1, 0, 1, 0, 0]), .inLoop (cd14 [1, 1, 1, 0, 1, 0, 0]), .inBlock 0, .code (cd14 [1, 1, 1, 1])]) (us := [(3, .slice A13 (List.replicate (a0.length : Int).toNat (0 : Int)).length ((a0.length : Int).toNat)), (17, .slice Aa0 a0.length ca0), (18, .int .i64 (a0.length : Int)), (19, .int .i64 0)]) (by kernel_rfl) ?_
    obtain ⟨v17, hv18, hp19⟩ := bind_some' hp12
    have hq23 : ∀ x, Sum.inr x = v17 → x = q0 := by intro x hx; subst hx; simpa using hp19
    have J24 : ∀ (t20 : List Int) (he26 : Sum.inl t20 = v17) (l25 : List Value) (w21 : World) (hS22 : St w0 Z (xrow A13 ((a0.length : Int).toNat) 3 1 (t20.flatMap (encI .i64)) :: fs) w21), Runs Tryd.prog 14 [.code (cd14 [1, 1, 1, 1])] (fill [some (.slice Aa0 a0.length ca0), none, none, some (.slice A13 t20.length ((a0.length : Int).toNat)), none, none, none, none, none, none, none, none, none, none, none, none, none, none, none, none, none, none, none, none, none, none, none, none, none, none, none, none, none, none, none, none, none, none, none, none, none, none, none, none, none, none, none, none, none, none, none, none, none, none, none, none, none, none, none, none, none, none, none, none, none, none, none, none, none, none, none, none, none, none, none, none, none, none, none, none, none, none, none, none, none, none, none, none, none, none, none, none, none, none, none, none, none, none, none] l25) w21 R := by
     intro t20 he26 l25 w21 hS22
     subst he26
     try dsimp only at hp19
     refine sx_run 6 (todo' := [.inRegion (opsOf (cd14 [1, 1, 1, 1, 0])) [4, 5, 6, 7], .code (cd14 [1, 1, 1, 1, 1])]) (us := [(92, .slice A13 t20.length ((a0.length : Int).toNat)), (93, .slice Aa0 a0.length ca0), (94, .int .i64 (a0.length : Int)), (95, .int .i64 (IntKind.i64.wrap ((a0.length : Int) - 1)))]) (by kernel_rfl) ?_
     obtain ⟨g27, hp28⟩ := ite_some hp19
     obtain ⟨b29, p30, hA31, -⟩ := (hS22.row 0 rfl).at_ (len_encI .i64) (by omega) g27.1 g27.2
     refine r_indexAddr (c := (cd14 [1, 1, 1, 1, 0])) (i := 4) (d := (some 96)) (ty := 0) (t := 59) (e := 3) (n := t20.length) (cp := (a0.length : Int).toNat) (sz := 1) (kk := .i64) (x := (.tmp 92)) (y := (.tmp 95)) (b := b29) (o' := p30) (j := (IntKind.i64.wrap ((a0.length : Int) - 1))) (by kernel_rfl) (by kernel_rfl) (slv (by kernel_rfl) hA31) (by kernel_rfl) (by kernel_rfl) (by kernel_rfl) g27.1 g27.2 ?_
     refine r_load (c := (cd14 [1, 1, 1, 1, 0])) (i := 5) (d := (some 97)) (ty := 3) (t := 3) (x := (.tmp 96)) (p := ⟨b29, p30 + (IntKind.i64.wrap ((a0.length : Int) - 1)).toNat * 1, none⟩) (v := .int .i64 (gt t20 (IntKind.i64.wrap ((a0.length : Int) - 1)))) (by kernel_rfl) (by kernel_rfl) (by kernel_rfl) (loads_at 0 ((hS22.row 0 rfl).at2 hA31 (len_encI .i64) (by omega) g27.1 g27.2) (by kernel_rfl) (by kernel_rfl)) ?_
     refine sx_split 1 (todo' := [.inRegion (opsOf (cd14 [1, 1, 1, 1, 0])) [7], .code (cd14 [1, 1, 1, 1, 1])]) (us := []) (d := 98) (t := ((gt t20 (IntKind.i64.wrap ((a0.length : Int) - 1))) == 0)) (by kernel_rfl) (fun h33 => ?_) (fun h34 => ?_)
     ·skip
      have hp35 := ite_t hp28 h33
      refine sx_run 2 (todo' := [.code (cd14 [1, 1, 1, 1, 1])]) (us := [(2, .bool true)]) (by kernel_rfl) ?_
      have hS36 := hS22.drop
      refine runs_ret (fn := Tryd.f14) (v := .bool true) Tryd.func14 (by kernel_rfl) ?_
      have hr37 := (Option.some.inj hp35)
      cases hr37
      exact hR _ _ ⟨rfl, hS36⟩
     ·skip
      have hp38 := ite_f hp28 h34
      refine sx_run 2 (todo' := [.code (cd14 [1, 1, 1, 1, 1])]) (us := [(2, .bool false)]) (by kernel_rfl) ?_
      have hS39 := hS22.drop
      refine runs_ret (fn := Tryd.f14) (v := .bool false) Tryd.func14 (by kernel_rfl) ?_
      have hr40 := (Option.some.inj hp38)
      cases hr40
      exact hR _ _ ⟨rfl, hS39⟩
    have L51 : ∀ (t41 : Int) (t42 : List Int) (e46 : Sum (List Int) Bool), cond_makes.l0 a0 t41 t42 = some e46 → e46 = v17 → ∀ (l45 : List Value) (w43 : World) (hS44 : St w0 Z (xrow A13 ((a0.length : Int).toNat) 3 1 (t42.flatMap (encI .i64)) :: fs) w43), Runs Tryd.prog 14 [.code (cd14 [1, 1, 1, 0, 1, 0, 0]), .inLoop (cd14 [1, 1, 1, 0, 1, 0, 0]), .inBlock 0, .code (cd14 [1, 1, 1, 1])] (fill [some (.slice Aa0 a0.length ca0), none, none, some (.slice A13 t42.length ((a0.length : Int).toNat)), none, none, none, none, none, none, none, none, none, none, none, none, none, some (.slice Aa0 a0.length ca0), some (.int .i64 (a0.length : Int)), some (.int .i64 t41), none, none, none, none, none, none, none, none, none, none, none, none, none, none, none, none, none, none, none, none, none, none, none, none, none, none, none, none, none, none, none, none, none, none, none, none, none, none, none, none, none, none, none, none, none, none, none, none, none, none, none, none, none, none, none, none, none, none, none, none, none, none, none, none, none, none, none, none, none, none, none, none, none, none, none, none, none, none, none] l45) w43 R := by
     refine cond_makes.l0.partial_correctness a0 (fun t41 t42 e46 => e46 = v17 → ∀ (l45 : List Value) (w43 : World) (hS44 : St w0 Z (xrow A13 ((a0.length : Int).toNat) 3 1 (t42.flatMap (encI .i64)) :: fs) w43), Runs Tryd.prog 14 [.code (cd14 [1, 1, 1, 0, 1, 0, 0]), .inLoop (cd14 [1, 1, 1, 0, 1, 0, 0]), .inBlock 0, .code (cd14 [1, 1, 1, 1])] (fill [some (.slice Aa0 a0.length ca0), none, none, some (.slice A13 t42.length ((a0.length : Int).toNat)), none, none, none, none, none, none, none, none, none, none, none, none, none, some (.slice Aa0 a0.length ca0), some (.int .i64 (a0.length : Int)), some (.int .i64 t41), none, none, none, none, none, none, none, none, none, none, none, none, none, none, none, none, none, none, none, none, none, none, none, none, none, none, none, none, none, none, none, none, none, none, none, none, none, none, none, none, none, none, none, none, none, none, none, none, none, none, none, none, none, none, none, none, none, none, none, none, none, none, none, none, none, none, none, none, none, none, none, none, none, none, none, none, none, none, none] l45) w43 R) ?_
     intro rec50 ih49 t41 t42 e46 hb48 he47 l45 w43 hS44
     have hq52 : ∀ x, Sum.inr x = e46 → x = q0 := fun x hx => hq23 x (hx.trans he47)
     refine sx_split 3 (todo' := [.inRegion (opsOf (cd14 [1, 1, 1, 0, 1, 0, 0, 0])) [], .code (cd14 [1, 1, 1, 0, 1, 0, 0, 1]), .inLoop (cd14 [1, 1, 1, 0, 1, 0, 0]), .inBlock 0, .code (cd14 [1, 1, 1, 1])]) (us := []) (d := 20) (t := (decide (t41 < (a0.length : Int)))) (by kernel_rfl) (fun h53 => ?_) (fun h54 => ?_)
     ·skip
      have hp55 := ite_t hb48 h53
      refine sx_run 9 (todo' := [.inRegion (opsOf (cd14 [1, 1, 1, 0, 1, 0, 0, 1, 1, 0, 0, 0])) [1, 2, 3, 4, 5], .code (cd14 [1, 1, 1, 0, 1, 0, 0, 1, 1, 0, 0, 1]), .inBlock 1, .code (cd14 [1, 1, 1, 0, 1, 0, 0, 1, 1, 1]), .inLoop (cd14 [1, 1, 1, 0, 1, 0, 0]), .inBlock 0, .code (cd14 [1, 1, 1, 1])]) (us := [(21, .int .i64 t41)]) (by kernel_rfl) ?_
      obtain ⟨g56, hp57⟩ := ite_some hp55
      obtain ⟨b58, p59, hA60, hc61⟩ := ha0.atF g56.1 g56.2
      refine r_indexAddr (c := (cd14 [1, 1, 1, 0, 1, 0, 0, 1, 1, 0, 0, 0])) (i := 1) (d := (some 22)) (ty := 0) (t := 23) (e := 38) (n := a0.length) (cp := ca0) (sz := 6) (kk := .i64) (x := (.tmp 17)) (y := (.tmp 19)) (b := b58) (o' := p59) (j := t41) (by kernel_rfl) (by kernel_rfl) (slv (by kernel_rfl) hA60) (by kernel_rfl) (by kernel_rfl) (by kernel_rfl) g56.1 g56.2 ?_
      refine r_load (c := (cd14 [1, 1, 1, 0, 1, 0, 0, 1, 1, 0, 0, 0])) (i := 2) (d := (some 23)) (ty := 38) (t := 38) (x := (.tmp 22)) (p := ⟨b58, p59 + t41.toNat * 6, none⟩) (v := .agg (enc_api_Node (gt a0 t41)).toArray) (by kernel_rfl) (by kernel_rfl) (by kernel_rfl) (loads_agg (hc61.cells hS44) (by kernel_rfl) (by kernel_rfl)) ?_
      refine r_alloc (c := (cd14 [1, 1, 1, 0, 1, 0, 0, 1, 1, 0, 0, 0])) (i := 3) (d := (some 5)) (ty := 0) (z := .agg (enc_api_Node (⟨0, 0, 0, ⟨0, (⟨#[]⟩ : ByteArray)⟩, 0⟩ : api_Node)).toArray) (t := 38) (cs := enc_api_Node (⟨0, 0, 0, ⟨0, (⟨#[]⟩ : ByteArray)⟩, 0⟩ : api_Node)) hS44 (by kernel_rfl) (by kernel_rfl) (by kernel_rfl) (by kernel_rfl) ?_
      intro b62 w63 hS64
      refine sx_run 1 (todo' := [.inRegion (opsOf (cd14 [1, 1, 1, 0, 1, 0, 0, 1, 1, 0, 0, 0])) [5], .code (cd14 [1, 1, 1, 0, 1, 0, 0, 1, 1, 0, 0, 1]), .inBlock 1, .code (cd14 [1, 1, 1, 0, 1, 0, 0, 1, 1, 1]), .inLoop (cd14 [1, 1, 1, 0, 1, 0, 0]), .inBlock 0, .code (cd14 [1, 1, 1, 1])]) (us := [(4, .int .i64 t41)]) (by kernel_rfl) ?_
      refine r_store (c := (cd14 [1, 1, 1, 0, 1, 0, 0, 1, 1, 0, 0, 0])) (i := 5) (d := none) (ty := 0) (t := 38) (x := (.tmp 5)) (y := (.tmp 23)) (b := b62) (o := 0) (e := 38) (cs := enc_api_Node (⟨0, 0, 0, ⟨0, (⟨#[]⟩ : ByteArray)⟩, 0⟩ : api_Node)) (v := .agg (enc_api_Node (gt a0 t41)).toArray) (vs := enc_api_Node (gt a0 t41)) (cs' := enc_api_Node (gt a0 t41)) hS64 (by kernel_rfl) (by kernel_rfl) (by kernel_rfl) (by kernel_rfl) (by kernel_rfl) (by kernel_rfl) (one_api_Node _) (Nat.le_of_ble_eq_true (by kernel_rfl)) (by kernel_rfl) ?_
      intro w66 hS67
      refine sx_run 4 (todo' := [.inRegion (opsOf (cd14 [1, 1, 1, 0, 1, 0, 0, 1, 1, 0, 0, 1, 0, 0])) [0, 1, 2], .code (cd14 [1, 1, 1, 0, 1, 0, 0, 1, 1, 0, 0, 1, 0, 1]), .code (cd14 [1, 1, 1, 0, 1, 0, 0, 1, 1, 0, 0, 1, 1]), .inBlock 1, .code (cd14 [1, 1, 1, 0, 1, 0, 0, 1, 1, 1]), .inLoop (cd14 [1, 1, 1, 0, 1, 0, 0]), .inBlock 0, .code (cd14 [1, 1, 1, 1])]) (us := []) (by kernel_rfl) ?_
      refine r_load (c := (cd14 [1, 1, 1, 0, 1, 0, 0, 1, 1, 0, 0, 1, 0, 0])) (i := 0) (d := (some 24)) (ty := 38) (t := 38) (x := (.tmp 5)) (p := ⟨b62, 0, none⟩) (v := .agg (enc_api_Node (gt a0 t41)).toArray) (by kernel_rfl) (by kernel_rfl) (by kernel_rfl) (loads_agg (hS67.blk 0 rfl) (by kernel_rfl) (by kernel_rfl)) ?_
      obtain ⟨t68, hr69, hp70⟩ := bind_some' hp57
      refine r_call1 (c := (cd14 [1, 1, 1, 0, 1, 0, 0, 1, 1, 0, 0, 1, 0, 0])) (i := 1) (d := (some 25)) (g := 25) (args := #[.agg (enc_api_Node (gt a0 t41)).toArray]) (by kernel_rfl) (by kernel_rfl) (by kernel_rfl) (by kernel_rfl) (cond_fields.ok (gt a0 t41) hS67 hr69) ?_
      rintro _ w71 ⟨rfl, hS72⟩
      refine ⟨.bool t68, rfl, ?_⟩
      refine sx_split 1 (todo' := [.inRegion (opsOf (cd14 [1, 1, 1, 0, 1, 0, 0, 1, 1, 0, 0, 1, 0, 0])) [], .code (cd14 [1, 1, 1, 0, 1, 0, 0, 1, 1, 0, 0, 1, 0, 1]), .code (cd14 [1, 1, 1, 0, 1, 0, 0, 1, 1, 0, 0, 1, 1]), .inBlock 1, .code (cd14 [1, 1, 1, 0, 1, 0, 0, 1, 1, 1]), .inLoop (cd14 [1, 1, 1, 0, 1, 0, 0]), .inBlock 0, .code (cd14 [1, 1, 1, 1])]) (us := []) (d := 26) (t := (!t68)) (by kernel_rfl) (fun h73 => ?_) (fun h74 => ?_)
      ·skip
       have hp75 := ite_t hp70 h73
       refine sx_run 6 (todo' := [.code (cd14 [1, 1, 1, 0, 1, 0, 0, 1, 1, 0, 0, 1, 0, 1, 0, 1]), .code (cd14 [1, 1, 1, 0, 1, 0, 0, 1, 1, 0, 0, 1, 1]), .inBlock 1, .code (cd14 [1, 1, 1, 0, 1, 0, 0, 1, 1, 1]), .inLoop (cd14 [1, 1, 1, 0, 1, 0, 0]), .inBlock 0, .code (cd14 [1, 1, 1, 1])]) (us := [(2, .bool false)]) (by kernel_rfl) ?_
       have hS76 := hS72.drop
       have hS77 := hS76.drop
       refine runs_ret (fn := Tryd.f14) (v := .bool false) Tryd.func14 (by kernel_rfl) ?_
       have hr78 := (hq52 _ (Option.some.inj hp75))
       cases hr78
       exact hR _ _ ⟨rfl, hS77⟩
      ·skip
       have hp79 := ite_f hp70 h74
       refine sx_run 6 (todo' := [.inRegion (opsOf (cd14 [1, 1, 1, 0, 1, 0, 0, 1, 1, 0, 0, 1, 1, 0])) [1], .code (cd14 [1, 1, 1, 0, 1, 0, 0, 1, 1, 0, 0, 1, 1, 1]), .inBlock 1, .code (cd14 [1, 1, 1, 0, 1, 0, 0, 1, 1, 1]), .inLoop (cd14 [1, 1, 1, 0, 1, 0, 0]), .inBlock 0, .code (cd14 [1, 1, 1, 1])]) (us := [(27, .pointer (some ⟨b62, 0, none⟩))]) (by kernel_rfl) ?_
       refine r_load (c := (cd14 [1, 1, 1, 0, 1, 0, 0, 1, 1, 0, 0, 1, 1, 0])) (i := 1) (d := (some 28)) (ty := 3) (t := 3) (x := (.tmp 27)) (p := ⟨b62, 0, none⟩) (v := .int .i64 ((gt a0 t41).Op)) (by kernel_rfl) (by kernel_rfl) (by kernel_rfl) (loads_at 0 (hS72.blk 0 rfl) (by kernel_rfl) (by kernel_rfl)) ?_
       refine sx_split 5 (todo' := [.inRegion (opsOf (cd14 [1, 1, 1, 0, 1, 0, 0, 1, 1, 0, 0, 1, 1, 1, 0, 0])) [1], .code (cd14 [1, 1, 1, 0, 1, 0, 0, 1, 1, 0, 0, 1, 1, 1, 0, 1]), .inBlock 2, .inBlock 1, .code (cd14 [1, 1, 1, 0, 1, 0, 0, 1, 1, 1]), .inLoop (cd14 [1, 1, 1, 0, 1, 0, 0]), .inBlock 0, .code (cd14 [1, 1, 1, 1])]) (us := []) (d := 34) (t := (((gt a0 t41).Op) == 3)) (by kernel_rfl) (fun h80 => ?_) (fun h81 => ?_)
       ·skip
        have hp82 := ite_t hp79 h80
        refine sx_split 8 (todo' := [.inRegion (opsOf (cd14 [1, 1, 1, 0, 1, 0, 0, 1, 1, 0, 0, 1, 1, 1, 0, 1, 0, 0, 0])) [2, 3, 4, 5, 6, 7, 8], .code (cd14 [1, 1, 1, 0, 1, 0, 0, 1, 1, 0, 0, 1, 1, 1, 0, 1, 0, 0, 1]), .code (cd14 [1, 1, 1, 0, 1, 0, 0, 1, 1, 0, 0, 1, 1, 1, 0, 1, 0, 1]), .inBlock 2, .inBlock 1, .code (cd14 [1, 1, 1, 0, 1, 0, 0, 1, 1, 1]), .inLoop (cd14 [1, 1, 1, 0, 1, 0, 0]), .inBlock 0, .code (cd14 [1, 1, 1, 1])]) (us := [(33, .bool true), (35, .int .i64 t41)]) (d := 36) (t := (t41 == 0)) (by kernel_rfl) (fun h83 => ?_) (fun h84 => ?_)
        ·skip
         have hp85 := ite_t hp82 h83
         refine sx_run 13 (todo' := [.code (cd14 [1, 1, 1, 0, 1, 0, 0, 1, 1, 0, 0, 1, 1, 1, 0, 1, 0, 0, 1, 0, 1]), .code (cd14 [1, 1, 1, 0, 1, 0, 0, 1, 1, 0, 0, 1, 1, 1, 0, 1, 0, 1]), .inBlock 2, .inBlock 1, .code (cd14 [1, 1, 1, 0, 1, 0, 0, 1, 1, 1]), .inLoop (cd14 [1, 1, 1, 0, 1, 0, 0]), .inBlock 0, .code (cd14 [1, 1, 1, 1])]) (us := [(37, .bool true), (38, undef), (39, undef), (40, undef), (41, undef), (42, undef), (43, .bool true), (2, .bool false)]) (by kernel_rfl) ?_
         have hS86 := hS72.drop
         have hS87 := hS86.drop
         refine runs_ret (fn := Tryd.f14) (v := .bool false) Tryd.func14 (by kernel_rfl) ?_
         have hr88 := (hq52 _ (Option.some.inj hp85))
         cases hr88
         exact hR _ _ ⟨rfl, hS87⟩
        ·skip
         have hp89 := ite_f hp82 h84
         refine sx_run 2 (todo' := [.inRegion (opsOf (cd14 [1, 1, 1, 0, 1, 0, 0, 1, 1, 0, 0, 1, 1, 1, 0, 1, 0, 0, 0])) [4, 5, 6, 7, 8], .code (cd14 [1, 1, 1, 0, 1, 0, 0, 1, 1, 0, 0, 1, 1, 1, 0, 1, 0, 0, 1]), .code (cd14 [1, 1, 1, 0, 1, 0, 0, 1, 1, 0, 0, 1, 1, 1, 0, 1, 0, 1]), .inBlock 2, .inBlock 1, .code (cd14 [1, 1, 1, 0, 1, 0, 0, 1, 1, 1]), .inLoop (cd14 [1, 1, 1, 0, 1, 0, 0]), .inBlock 0, .code (cd14 [1, 1, 1, 1])]) (us := [(37, .bool false), (38, .pointer (some ⟨b62, 1, none⟩))]) (by kernel_rfl) ?_
         refine r_load (c := (cd14 [1, 1, 1, 0, 1, 0, 0, 1, 1, 0, 0, 1, 1, 1, 0, 1, 0, 0, 0])) (i := 4) (d := (some 39)) (ty := 3) (t := 3) (x := (.tmp 38)) (p := ⟨b62, 1, none⟩) (v := .int .i64 ((gt a0 t41).A)) (by kernel_rfl) (by kernel_rfl) (by kernel_rfl) (loads_at 1 (hS72.blk 0 rfl) (by kernel_rfl) (by kernel_rfl)) ?_
         refine sx_split 3 (todo' := [.inRegion (opsOf (cd14 [1, 1, 1, 0, 1, 0, 0, 1, 1, 0, 0, 1, 1, 1, 0, 1, 0, 0, 0])) [8], .code (cd14 [1, 1, 1, 0, 1, 0, 0, 1, 1, 0, 0, 1, 1, 1, 0, 1, 0, 0, 1]), .code (cd14 [1, 1, 1, 0, 1, 0, 0, 1, 1, 0, 0, 1, 1, 1, 0, 1, 0, 1]), .inBlock 2, .inBlock 1, .code (cd14 [1, 1, 1, 0, 1, 0, 0, 1, 1, 1]), .inLoop (cd14 [1, 1, 1, 0, 1, 0, 0]), .inBlock 0, .code (cd14 [1, 1, 1, 1])]) (us := [(40, .int .i64 t41), (41, .int .i64 (IntKind.i64.wrap (t41 - 1)))]) (d := 42) (t := (((gt a0 t41).A) != (IntKind.i64.wrap (t41 - 1)))) (by kernel_rfl) (fun h90 => ?_) (fun h91 => ?_)
         ·skip
          have hp92 := ite_t hp89 h90
          refine sx_run 7 (todo' := [.code (cd14 [1, 1, 1, 0, 1, 0, 0, 1, 1, 0, 0, 1, 1, 1, 0, 1, 0, 0, 1, 0, 1]), .code (cd14 [1, 1, 1, 0, 1, 0, 0, 1, 1, 0, 0, 1, 1, 1, 0, 1, 0, 1]), .inBlock 2, .inBlock 1, .code (cd14 [1, 1, 1, 0, 1, 0, 0, 1, 1, 1]), .inLoop (cd14 [1, 1, 1, 0, 1, 0, 0]), .inBlock 0, .code (cd14 [1, 1, 1, 1])]) (us := [(43, .bool true), (2, .bool false)]) (by kernel_rfl) ?_
          have hS93 := hS72.drop
          have hS94 := hS93.drop
          refine runs_ret (fn := Tryd.f14) (v := .bool false) Tryd.func14 (by kernel_rfl) ?_
          have hr95 := (hq52 _ (Option.some.inj hp92))
          cases hr95
          exact hR _ _ ⟨rfl, hS94⟩
         ·skip
          have hp96 := ite_f hp89 h91
          refine sx_run 9 (todo' := [.inRegion (opsOf (cd14 [1, 1, 1, 0, 1, 0, 0, 1, 1, 0, 0, 1, 1, 1, 0, 1, 0, 1])) [4, 5, 6, 7, 8], .inBlock 2, .inBlock 1, .code (cd14 [1, 1, 1, 0, 1, 0, 0, 1, 1, 1]), .inLoop (cd14 [1, 1, 1, 0, 1, 0, 0]), .inBlock 0, .code (cd14 [1, 1, 1, 1])]) (us := [(43, .bool false), (44, .slice A13 t42.length ((a0.length : Int).toNat)), (45, .int .i64 t41), (46, .slice A13 t42.length ((a0.length : Int).toNat)), (47, .pointer (some ⟨b62, 1, none⟩))]) (by kernel_rfl) ?_
          refine r_load (c := (cd14 [1, 1, 1, 0, 1, 0, 0, 1, 1, 0, 0, 1, 1, 1, 0, 1, 0, 1])) (i := 4) (d := (some 48)) (ty := 3) (t := 3) (x := (.tmp 47)) (p := ⟨b62, 1, none⟩) (v := .int .i64 ((gt a0 t41).A)) (by kernel_rfl) (by kernel_rfl) (by kernel_rfl) (loads_at 1 (hS72.blk 0 rfl) (by kernel_rfl) (by kernel_rfl)) ?_
          obtain ⟨g97, hp98⟩ := ite_some hp96
          obtain ⟨b99, p100, hA101, -⟩ := (hS72.row 1 rfl).at_ (len_encI .i64) (by omega) g97.1 g97.2
          refine r_indexAddr (c := (cd14 [1, 1, 1, 0, 1, 0, 0, 1, 1, 0, 0, 1, 1, 1, 0, 1, 0, 1])) (i := 5) (d := (some 49)) (ty := 0) (t := 59) (e := 3) (n := t42.length) (cp := (a0.length : Int).toNat) (sz := 1) (kk := .i64) (x := (.tmp 46)) (y := (.tmp 48)) (b := b99) (o' := p100) (j := (gt a0 t41).A) (by kernel_rfl) (by kernel_rfl) (slv (by kernel_rfl) hA101) (by kernel_rfl) (by kernel_rfl) (by kernel_rfl) g97.1 g97.2 ?_
          refine r_load (c := (cd14 [1, 1, 1, 0, 1, 0, 0, 1, 1, 0, 0, 1, 1, 1, 0, 1, 0, 1])) (i := 6) (d := (some 50)) (ty := 3) (t := 3) (x := (.tmp 49)) (p := ⟨b99, p100 + ((gt a0 t41).A).toNat * 1, none⟩) (v := .int .i64 (gt t42 ((gt a0 t41).A))) (by kernel_rfl) (by kernel_rfl) (by kernel_rfl) (loads_at 0 ((hS72.row 1 rfl).at2 hA101 (len_encI .i64) (by omega) g97.1 g97.2) (by kernel_rfl) (by kernel_rfl)) ?_
          obtain ⟨g103, hp104⟩ := ite_some hp98
          obtain ⟨b105, p106, hA107, -⟩ := (hS72.row 1 rfl).at_ (len_encI .i64) (by omega) g103.1 g103.2
          refine r_indexAddr (c := (cd14 [1, 1, 1, 0, 1, 0, 0, 1, 1, 0, 0, 1, 1, 1, 0, 1, 0, 1])) (i := 7) (d := (some 51)) (ty := 0) (t := 59) (e := 3) (n := t42.length) (cp := (a0.length : Int).toNat) (sz := 1) (kk := .i64) (x := (.tmp 44)) (y := (.tmp 45)) (b := b105) (o' := p106) (j := t41) (by kernel_rfl) (by kernel_rfl) (slv (by kernel_rfl) hA107) (by kernel_rfl) (by kernel_rfl) (by kernel_rfl) g103.1 g103.2 ?_
          have hS109 := hS72.pick1
          refine r_storeEl (c := (cd14 [1, 1, 1, 0, 1, 0, 0, 1, 1, 0, 0, 1, 1, 1, 0, 1, 0, 1])) (i := 8) (d := none) (ty := 0) (enc := (encI .i64)) (e := 3) (t := 3) (sz := 1) (cp := (a0.length : Int).toNat) (A := A13) (xs := t42) (x := (.tmp 51)) (y := (.tmp 50)) (el := gt t42 t41) (el' := (gt t42 ((gt a0 t41).A))) (j := t41) (off := 0) (b := b105) (p := p106) (v := .int .i64 (gt t42 ((gt a0 t41).A))) (vs := [.int .i64 (gt t42 ((gt a0 t41).A))]) (ad := ⟨b105, p106 + t41.toNat * 1, none⟩) hS109 (by kernel_rfl) (by kernel_rfl) (by kernel_rfl) (by simp) (by kernel_rfl) hA107 g103 rfl (len_encI .i64) (by kernel_rfl) (by kernel_rfl) (by kernel_rfl) (Nat.le_of_ble_eq_true (by kernel_rfl)) (Nat.le_of_ble_eq_true (by kernel_rfl)) (by kernel_rfl) ?_
          intro w110 hS111
          refine Runs.fill (m := [none, none, none, some (.slice A13 t42.length ((a0.length : Int).toNat)), none, none, none, none, none, none, none, none, none, none, none, none, none, none, none, none, none, none, none, none, none, none, none, none, none, none, none, none, none, none, none, none, none, none, none, none, none, none, none, none, some (.slice A13 t42.length ((a0.length : Int).toNat)), none, some (.slice A13 t42.length ((a0.length : Int).toNat)), none, none, none, none, none, none, none, none, none, none, none, none, none, none, none, none, none, none, none, none, none, none, none, none, none, none, none, none, none, none, none, none, none, none, none, none, none, none, none, none, none, none, none, none, none, none, none, none, none, none, none, none]) (by kernel_rfl) ?_
          refine Runs.refill (m' := [none, none, none, some (.slice A13 (setl t42 t41 (gt t42 ((gt a0 t41).A))).length ((a0.length : Int).toNat)), none, none, none, none, none, none, none, none, none, none, none, none, none, none, none, none, none, none, none, none, none, none, none, none, none, none, none, none, none, none, none, none, none, none, none, none, none, none, none, none, some (.slice A13 (setl t42 t41 (gt t42 ((gt a0 t41).A))).length ((a0.length : Int).toNat)), none, some (.slice A13 (setl t42 t41 (gt t42 ((gt a0 t41).A))).length ((a0.length : Int).toNat)), none, none, none, none, none, none, none, none, none, none, none, none, none, none, none, none, none, none, none, none, none, none, none, none, none, none, none, none, none, none, none, none, none, none, none, none, none, none, none, none, none, none, none, none, none, none, none, none, none, none, none, none]) (by simp only [setl_len]) ?_
          refine sx_run 7 (todo' := [.inLoop (cd14 [1, 1, 1, 0, 1, 0, 0]), .inBlock 0, .code (cd14 [1, 1, 1, 1])]) (us := [(91, .int .i64 (IntKind.i64.wrap (t41 + 1))), (19, .int .i64 (IntKind.i64.wrap (t41 + 1)))]) (by kernel_rfl) ?_
          have hS112 := hS111.pick1
          have hS113 := hS112.drop
          refine sx_run 1 (todo' := [.code (cd14 [1, 1, 1, 0, 1, 0, 0]), .inLoop (cd14 [1, 1, 1, 0, 1, 0, 0]), .inBlock 0, .code (cd14 [1, 1, 1, 1])]) (us := []) (by kernel_rfl) ?_
          refine Runs.fill (m := [some (.slice Aa0 a0.length ca0), none, none, some (.slice A13 (setl t42 t41 (gt t42 ((gt a0 t41).A))).length ((a0.length : Int).toNat)), none, none, none, none, none, none, none, none, none, none, none, none, none, some (.slice Aa0 a0.length ca0), some (.int .i64 (a0.length : Int)), some (.int .i64 (IntKind.i64.wrap (t41 + 1))), none, none, none, none, none, none, none, none, none, none, none, none, none, none, none, none, none, none, none, none, none, none, none, none, none, none, none, none, none, none, none, none, none, none, none, none, none, none, none, none, none, none, none, none, none, none, none, none, none, none, none, none, none, none, none, none, none, none, none, none, none, none, none, none, none, none, none, none, none, none, none, none, none, none, none, none, none, none, none]) (by kernel_rfl) ?_
          exact ih49 (IntKind.i64.wrap (t41 + 1)) (setl t42 t41 (gt t42 ((gt a0 t41).A))) _ hp104 he47 _ _ hS113
       ·skip
        have hp114 := ite_f hp79 h81
        obtain ⟨v115, hv116, hp117⟩ := bind_some' hp114
        have J121 : ∀ (t118 : Bool) (he123 : t118 = v115) (l122 : List Value) (w119 : World) (hS120 : St w0 Z (xrow A13 ((a0.length : Int).toNat) 3 1 (t42.flatMap (encI .i64)) :: xblk b62 38 (enc_api_Node (gt a0 t41)) :: fs) w119), Runs Tryd.prog 14 [.code (cd14 [1, 1, 1, 0, 1, 0, 0, 1, 1, 0, 0, 1, 1, 1, 0, 1, 1, 1]), .inBlock 2, .inBlock 1, .code (cd14 [1, 1, 1, 0, 1, 0, 0, 1, 1, 1]), .inLoop (cd14 [1, 1, 1, 0, 1, 0, 0]), .inBlock 0, .code (cd14 [1, 1, 1, 1])] (fill [some (.slice Aa0 a0.length ca0), none, none, some (.slice A13 t42.length ((a0.length : Int).toNat)), some (.int .i64 t41), some (.pointer (some ⟨b62, 0, none⟩)), none, none, none, none, none, none, none, none, none, none, none, some (.slice Aa0 a0.length ca0), some (.int .i64 (a0.length : Int)), some (.int .i64 t41), none, none, none, none, none, none, none, none, none, none, none, none, none, none, none, none, none, none, none, none, none, none, none, none, none, none, none, none, none, none, none, none, some (.bool t118), none, none, none, none, none, none, none, none, none, none, none, none, none, none, none, none, none, none, none, none, none, none, none, none, none, none, none, none, none, none, none, none, none, none, none, none, none, none, none, none, none, none, none, none, none, none] l122) w119 R := by
         intro t118 he123 l122 w119 hS120
         subst he123
         try dsimp only at hp117
         cases t118
         ·skip
          have hp124 := ite_f hp117 rfl
          refine sx_run 5 (todo' := [.inRegion (opsOf (cd14 [1, 1, 1, 0, 1, 0, 0, 1, 1, 0, 0, 1, 1, 1, 0, 1, 1, 1, 1])) [3, 4], .inBlock 2, .inBlock 1, .code (cd14 [1, 1, 1, 0, 1, 0, 0, 1, 1, 1]), .inLoop (cd14 [1, 1, 1, 0, 1, 0, 0]), .inBlock 0, .code (cd14 [1, 1, 1, 1])]) (us := [(29, .slice A13 t42.length ((a0.length : Int).toNat)), (30, .int .i64 t41), (31, .int .i64 t41)]) (by kernel_rfl) ?_
          obtain ⟨g125, hp126⟩ := ite_some hp124
          obtain ⟨b127, p128, hA129, -⟩ := (hS120.row 0 rfl).at_ (len_encI .i64) (by omega) g125.1 g125.2
          refine r_indexAddr (c := (cd14 [1, 1, 1, 0, 1, 0, 0, 1, 1, 0, 0, 1, 1, 1, 0, 1, 1, 1, 1])) (i := 3) (d := (some 32)) (ty := 0) (t := 59) (e := 3) (n := t42.length) (cp := (a0.length : Int).toNat) (sz := 1) (kk := .i64) (x := (.tmp 29)) (y := (.tmp 30)) (b := b127) (o' := p128) (j := t41) (by kernel_rfl) (by kernel_rfl) (slv (by kernel_rfl) hA129) (by kernel_rfl) (by kernel_rfl) (by kernel_rfl) g125.1 g125.2 ?_
          refine r_storeEl (c := (cd14 [1, 1, 1, 0, 1, 0, 0, 1, 1, 0, 0, 1, 1, 1, 0, 1, 1, 1, 1])) (i := 4) (d := none) (ty := 0) (enc := (encI .i64)) (e := 3) (t := 3) (sz := 1) (cp := (a0.length : Int).toNat) (A := A13) (xs := t42) (x := (.tmp 32)) (y := (.tmp 31)) (el := gt t42 t41) (el' := t41) (j := t41) (off := 0) (b := b127) (p := p128) (v := .int .i64 t41) (vs := [.int .i64 t41]) (ad := ⟨b127, p128 + t41.toNat * 1, none⟩) hS120 (by kernel_rfl) (by kernel_rfl) (by kernel_rfl) (by simp) (by kernel_rfl) hA129 g125 rfl (len_encI .i64) (by kernel_rfl) (by kernel_rfl) (by kernel_rfl) (Nat.le_of_ble_eq_true (by kernel_rfl)) (Nat.le_of_ble_eq_true (by kernel_rfl)) (by kernel_rfl) ?_
          intro w131 hS132
          refine Runs.fill (m := [none, none, none, some (.slice A13 t42.length ((a0.length : Int).toNat)), none, none, none, none, none, none, none, none, none, none, none, none, none, none, none, none, none, none, none, none, none, none, none, none, none, some (.slice A13 t42.length ((a0.length : Int).toNat)), none, none, none, none, none, none, none, none, none, none, none, none, none, none, none, none, none, none, none, none, none, none, none, none, none, none, none, none, none, none, none, none, none, none, none, none, none, none, none, none, none, none, none, none, none, none, none, none, none, none, none, none, none, none, none, none, none, none, none, none, none, none, none, none, none, none, none, none, none]) (by kernel_rfl) ?_
          refine Runs.refill (m' := [none, none, none, some (.slice A13 (setl t42 t41 t41).length ((a0.length : Int).toNat)), none, none, none, none, none, none, none, none, none, none, none, none, none, none, none, none, none, none, none, none, none, none, none, none, none, some (.slice A13 (setl t42 t41 t41).length ((a0.length : Int).toNat)), none, none, none, none, none, none, none, none, none, none, none, none, none, none, none, none, none, none, none, none, none, none, none, none, none, none, none, none, none, none, none, none, none, none, none, none, none, none, none, none, none, none, none, none, none, none, none, none, none, none, none, none, none, none, none, none, none, none, none, none, none, none, none, none, none, none, none, none, none]) (by simp only [setl_len]) ?_
          refine sx_run 7 (todo' := [.inLoop (cd14 [1, 1, 1, 0, 1, 0, 0]), .inBlock 0, .code (cd14 [1, 1, 1, 1])]) (us := [(91, .int .i64 (IntKind.i64.wrap (t41 + 1))), (19, .int .i64 (IntKind.i64.wrap (t41 + 1)))]) (by kernel_rfl) ?_
          have hS133 := hS132.pick1
          have hS134 := hS133.drop
          refine sx_run 1 (todo' := [.code (cd14 [1, 1, 1, 0, 1, 0, 0]), .inLoop (cd14 [1, 1, 1, 0, 1, 0, 0]), .inBlock 0, .code (cd14 [1, 1, 1, 1])]) (us := []) (by kernel_rfl) ?_
          refine Runs.fill (m := [some (.slice Aa0 a0.length ca0), none, none, some (.slice A13 (setl t42 t41 t41).length ((a0.length : Int).toNat)), none, none, none, none, none, none, none, none, none, none, none, none, none, some (.slice Aa0 a0.length ca0), some (.int .i64 (a0.length : Int)), some (.int .i64 (IntKind.i64.wrap (t41 + 1))), none, none, none, none, none, none, none, none, none, none, none, none, none, none, none, none, none, none, none, none, none, none, none, none, none, none, none, none, none, none, none, none, none, none, none, none, none, none, none, none, none, none, none, none, none, none, none, none, none, none, none, none, none, none, none, none, none, none, none, none, none, none, none, none, none, none, none, none, none, none, none, none, none, none, none, none, none, none, none]) (by kernel_rfl) ?_
          exact ih49 (IntKind.i64.wrap (t41 + 1)) (setl t42 t41 t41) _ hp126 he47 _ _ hS134
         ·skip
          have hp135 := ite_t hp117 rfl
          refine sx_run 3 (todo' := [.code (cd14 [1, 1, 1, 0, 1, 0, 0, 1, 1, 0, 0, 1, 1, 1, 0, 1, 1, 1, 0, 0, 0]), .code (cd14 [1, 1, 1, 0, 1, 0, 0, 1, 1, 0, 0, 1, 1, 1, 0, 1, 1, 1, 0, 0, 1]), .code (cd14 [1, 1, 1, 0, 1, 0, 0, 1, 1, 0, 0, 1, 1, 1, 0, 1, 1, 1, 0, 1]), .inBlock 2, .inBlock 1, .code (cd14 [1, 1, 1, 0, 1, 0, 0, 1, 1, 1]), .inLoop (cd14 [1, 1, 1, 0, 1, 0, 0]), .inBlock 0, .code (cd14 [1, 1, 1, 1])]) (us := []) (by kernel_rfl) ?_
          refine r_quiet hS120 (c := (cd14 [1, 1, 1, 0, 1, 0, 0, 1, 1, 0, 0, 1, 1, 1, 0, 1, 1, 1, 0, 0, 0])) (id := 17) (by kernel_rfl) (by kernel_rfl) (by kernel_rfl) (is := [0, 1, 2, 3, 4, 5, 6, 7, 8, 9, 10, 11, 12, 13, 14, 15, 16, 17, 18, 19, 20, 21, 22, 23, 24, 25, 26, 27]) (by kernel_rfl) ?_
          refine q_splitr 2 (is' := [2, 3, 4, 5, 6, 7, 8, 9, 10, 11, 12, 13, 14, 15, 16, 17, 18, 19, 20, 21, 22, 23, 24, 25, 26, 27]) (us := [(55, .int .i64 t41)]) (d := 56) (t := (t41 == 0)) (by kernel_rfl) (fun h136 => ?_) (fun h137 => ?_)
          ·skip
           have hp138 := ite_t hp135 h136
           refine q_run 26 (is' := []) (us := [(57, .bool true), (58, undef), (59, undef), (60, undef), (61, undef), (62, undef), (63, .bool true), (64, .bool true), (65, undef), (66, undef), (67, undef), (68, undef), (69, undef), (70, undef), (71, .bool true), (72, .bool true), (73, undef), (74, undef), (75, undef), (76, undef), (77, undef), (78, undef), (79, undef), (80, undef), (81, undef), (82, .bool true)]) (by kernel_rfl) ?_
           refine Qs.nil ?_
           intro w139 hS140
           refine sx_run 5 (todo' := [.code (cd14 [1, 1, 1, 0, 1, 0, 0, 1, 1, 0, 0, 1, 1, 1, 0, 1, 1, 1, 0, 0, 1, 0, 1]), .code (cd14 [1, 1, 1, 0, 1, 0, 0, 1, 1, 0, 0, 1, 1, 1, 0, 1, 1, 1, 0, 1]), .inBlock 2, .inBlock 1, .code (cd14 [1, 1, 1, 0, 1, 0, 0, 1, 1, 1]), .inLoop (cd14 [1, 1, 1, 0, 1, 0, 0]), .inBlock 0, .code (cd14 [1, 1, 1, 1])]) (us := [(2, .bool false)]) (by kernel_rfl) ?_
           have hS141 := hS140.drop
           have hS142 := hS141.drop
           refine runs_ret (fn := Tryd.f14) (v := .bool false) Tryd.func14 (by kernel_rfl) ?_
           have hr143 := (hq52 _ (Option.some.inj hp138))
           cases hr143
           exact hR _ _ ⟨rfl, hS142⟩
          ·skip
           have hp144 := ite_f hp135 h137
           refine q_run 2 (is' := [4, 5, 6, 7, 8, 9, 10, 11, 12, 13, 14, 15, 16, 17, 18, 19, 20, 21, 22, 23, 24, 25, 26, 27]) (us := [(57, .bool false), (58, .pointer (some ⟨b62, 2, none⟩))]) (by kernel_rfl) ?_
           refine q_load (c := (cd14 [1, 1, 1, 0, 1, 0, 0, 1, 1, 0, 0, 1, 1, 1, 0, 1, 1, 1, 0, 0, 0])) (i := 4) (d := (some 59)) (ty := 3) (t := 3) (x := (.tmp 58)) (p := ⟨b62, 2, none⟩) (v := .int .i64 ((gt a0 t41).B)) (by kernel_rfl) (by kernel_rfl) (by kernel_rfl) (fun w hC => (loads_at 2 (hC.blk 1 rfl) (by kernel_rfl) (by kernel_rfl))) ?_
           refine q_splitr 3 (is' := [8, 9, 10, 11, 12, 13, 14, 15, 16, 17, 18, 19, 20, 21, 22, 23, 24, 25, 26, 27]) (us := [(60, .int .i64 t41), (61, .int .i64 (IntKind.i64.wrap (t41 - 1)))]) (d := 62) (t := (((gt a0 t41).B) != (IntKind.i64.wrap (t41 - 1)))) (by kernel_rfl) (fun h145 => ?_) (fun h146 => ?_)
           ·skip
            have hp147 := ite_t hp144 h145
            refine q_run 20 (is' := []) (us := [(63, .bool true), (64, .bool true), (65, undef), (66, undef), (67, undef), (68, undef), (69, undef), (70, undef), (71, .bool true), (72, .bool true), (73, undef), (74, undef), (75, undef), (76, undef), (77, undef), (78, undef), (79, undef), (80, undef), (81, undef), (82, .bool true)]) (by kernel_rfl) ?_
            refine Qs.nil ?_
            intro w148 hS149
            refine sx_run 5 (todo' := [.code (cd14 [1, 1, 1, 0, 1, 0, 0, 1, 1, 0, 0, 1, 1, 1, 0, 1, 1, 1, 0, 0, 1, 0, 1]), .code (cd14 [1, 1, 1, 0, 1, 0, 0, 1, 1, 0, 0, 1, 1, 1, 0, 1, 1, 1, 0, 1]), .inBlock 2, .inBlock 1, .code (cd14 [1, 1, 1, 0, 1, 0, 0, 1, 1, 1]), .inLoop (cd14 [1, 1, 1, 0, 1, 0, 0]), .inBlock 0, .code (cd14 [1, 1, 1, 1])]) (us := [(2, .bool false)]) (by kernel_rfl) ?_
            have hS150 := hS149.drop
            have hS151 := hS150.drop
            refine runs_ret (fn := Tryd.f14) (v := .bool false) Tryd.func14 (by kernel_rfl) ?_
            have hr152 := (hq52 _ (Option.some.inj hp147))
            cases hr152
            exact hR _ _ ⟨rfl, hS151⟩
           ·skip
            have hp153 := ite_f hp144 h146
            refine q_run 4 (is' := [12, 13, 14, 15, 16, 17, 18, 19, 20, 21, 22, 23, 24, 25, 26, 27]) (us := [(63, .bool false), (64, .bool false), (65, .slice A13 t42.length ((a0.length : Int).toNat)), (66, .pointer (some ⟨b62, 2, none⟩))]) (by kernel_rfl) ?_
            refine q_load (c := (cd14 [1, 1, 1, 0, 1, 0, 0, 1, 1, 0, 0, 1, 1, 1, 0, 1, 1, 1, 0, 0, 0])) (i := 12) (d := (some 67)) (ty := 3) (t := 3) (x := (.tmp 66)) (p := ⟨b62, 2, none⟩) (v := .int .i64 ((gt a0 t41).B)) (by kernel_rfl) (by kernel_rfl) (by kernel_rfl) (fun w hC => (loads_at 2 (hC.blk 1 rfl) (by kernel_rfl) (by kernel_rfl))) ?_
            obtain ⟨g154, hp155⟩ := ite_some hp153
            obtain ⟨b156, p157, hA158, -⟩ := (hS120.row 0 rfl).at_ (len_encI .i64) (by omega) g154.1 g154.2
            refine q_indexAddr (c := (cd14 [1, 1, 1, 0, 1, 0, 0, 1, 1, 0, 0, 1, 1, 1, 0, 1, 1, 1, 0, 0, 0])) (i := 13) (d := (some 68)) (ty := 0) (t := 59) (e := 3) (n := t42.length) (cp := (a0.length : Int).toNat) (sz := 1) (kk := .i64) (x := (.tmp 65)) (y := (.tmp 67)) (b := b156) (o' := p157) (j := (gt a0 t41).B) (by kernel_rfl) (by kernel_rfl) (slv (by kernel_rfl) hA158) (by kernel_rfl) (by kernel_rfl) (by kernel_rfl) g154.1 g154.2 ?_
            refine q_load (c := (cd14 [1, 1, 1, 0, 1, 0, 0, 1, 1, 0, 0, 1, 1, 1, 0, 1, 1, 1, 0, 0, 0])) (i := 14) (d := (some 69)) (ty := 3) (t := 3) (x := (.tmp 68)) (p := ⟨b156, p157 + ((gt a0 t41).B).toNat * 1, none⟩) (v := .int .i64 (gt t42 ((gt a0 t41).B))) (by kernel_rfl) (by kernel_rfl) (by kernel_rfl) (fun w hC => (loads_at 0 ((hC.row 0 rfl).at2 hA158 (len_encI .i64) (by omega) g154.1 g154.2) (by kernel_rfl) (by kernel_rfl))) ?_
            refine q_splitr 1 (is' := [16, 17, 18, 19, 20, 21, 22, 23, 24, 25, 26, 27]) (us := []) (d := 70) (t := ((gt t42 ((gt a0 t41).B)) == 0)) (by kernel_rfl) (fun h160 => ?_) (fun h161 => ?_)
            ·skip
             have hp162 := ite_t hp155 h160
             refine q_run 12 (is' := []) (us := [(71, .bool true), (72, .bool true), (73, undef), (74, undef), (75, undef), (76, undef), (77, undef), (78, undef), (79, undef), (80, undef), (81, undef), (82, .bool true)]) (by kernel_rfl) ?_
             refine Qs.nil ?_
             intro w163 hS164
             refine sx_run 5 (todo' := [.code (cd14 [1, 1, 1, 0, 1, 0, 0, 1, 1, 0, 0, 1, 1, 1, 0, 1, 1, 1, 0, 0, 1, 0, 1]), .code (cd14 [1, 1, 1, 0, 1, 0, 0, 1, 1, 0, 0, 1, 1, 1, 0, 1, 1, 1, 0, 1]), .inBlock 2, .inBlock 1, .code (cd14 [1, 1, 1, 0, 1, 0, 0, 1, 1, 1]), .inLoop (cd14 [1, 1, 1, 0, 1, 0, 0]), .inBlock 0, .code (cd14 [1, 1, 1, 1])]) (us := [(2, .bool false)]) (by kernel_rfl) ?_
             have hS165 := hS164.drop
             have hS166 := hS165.drop
             refine runs_ret (fn := Tryd.f14) (v := .bool false) Tryd.func14 (by kernel_rfl) ?_
             have hr167 := (hq52 _ (Option.some.inj hp162))
             cases hr167
             exact hR _ _ ⟨rfl, hS166⟩
            ·skip
             have hp168 := ite_f hp155 h161
             refine q_run 3 (is' := [19, 20, 21, 22, 23, 24, 25, 26, 27]) (us := [(71, .bool false), (72, .bool false), (73, .pointer (some ⟨b62, 1, none⟩))]) (by kernel_rfl) ?_
             refine q_load (c := (cd14 [1, 1, 1, 0, 1, 0, 0, 1, 1, 0, 0, 1, 1, 1, 0, 1, 1, 1, 0, 0, 0])) (i := 19) (d := (some 74)) (ty := 3) (t := 3) (x := (.tmp 73)) (p := ⟨b62, 1, none⟩) (v := .int .i64 ((gt a0 t41).A)) (by kernel_rfl) (by kernel_rfl) (by kernel_rfl) (fun w hC => (loads_at 1 (hC.blk 1 rfl) (by kernel_rfl) (by kernel_rfl))) ?_
             refine q_run 2 (is' := [22, 23, 24, 25, 26, 27]) (us := [(75, .slice A13 t42.length ((a0.length : Int).toNat)), (76, .pointer (some ⟨b62, 2, none⟩))]) (by kernel_rfl) ?_
             refine q_load (c := (cd14 [1, 1, 1, 0, 1, 0, 0, 1, 1, 0, 0, 1, 1, 1, 0, 1, 1, 1, 0, 0, 0])) (i := 22) (d := (some 77)) (ty := 3) (t := 3) (x := (.tmp 76)) (p := ⟨b62, 2, none⟩) (v := .int .i64 ((gt a0 t41).B)) (by kernel_rfl) (by kernel_rfl) (by kernel_rfl) (fun w hC => (loads_at 2 (hC.blk 1 rfl) (by kernel_rfl) (by kernel_rfl))) ?_
             obtain ⟨g169, hp170⟩ := ite_some hp168
             obtain ⟨b171, p172, hA173, -⟩ := (hS120.row 0 rfl).at_ (len_encI .i64) (by omega) g169.1 g169.2
             refine q_indexAddr (c := (cd14 [1, 1, 1, 0, 1, 0, 0, 1, 1, 0, 0, 1, 1, 1, 0, 1, 1, 1, 0, 0, 0])) (i := 23) (d := (some 78)) (ty := 0) (t := 59) (e := 3) (n := t42.length) (cp := (a0.length : Int).toNat) (sz := 1) (kk := .i64) (x := (.tmp 75)) (y := (.tmp 77)) (b := b171) (o' := p172) (j := (gt a0 t41).B) (by kernel_rfl) (by kernel_rfl) (slv (by kernel_rfl) hA173) (by kernel_rfl) (by kernel_rfl) (by kernel_rfl) g169.1 g169.2 ?_
             refine q_load (c := (cd14 [1, 1, 1, 0, 1, 0, 0, 1, 1, 0, 0, 1, 1, 1, 0, 1, 1, 1, 0, 0, 0])) (i := 24) (d := (some 79)) (ty := 3) (t := 3) (x := (.tmp 78)) (p := ⟨b171, p172 + ((gt a0 t41).B).toNat * 1, none⟩) (v := .int .i64 (gt t42 ((gt a0 t41).B))) (by kernel_rfl) (by kernel_rfl) (by kernel_rfl) (fun w hC => (loads_at 0 ((hC.row 0 rfl).at2 hA173 (len_encI .i64) (by omega) g169.1 g169.2) (by kernel_rfl) (by kernel_rfl))) ?_
             refine q_splitr 2 (is' := [27]) (us := [(80, .int .i64 (IntKind.i64.wrap ((gt t42 ((gt a0 t41).B)) - 1)))]) (d := 81) (t := (((gt a0 t41).A) != (IntKind.i64.wrap ((gt t42 ((gt a0 t41).B)) - 1)))) (by kernel_rfl) (fun h175 => ?_) (fun h176 => ?_)
             ·skip
              have hp177 := ite_t hp170 h175
              refine q_run 1 (is' := []) (us := [(82, .bool true)]) (by kernel_rfl) ?_
              refine Qs.nil ?_
              intro w178 hS179
              refine sx_run 5 (todo' := [.code (cd14 [1, 1, 1, 0, 1, 0, 0, 1, 1, 0, 0, 1, 1, 1, 0, 1, 1, 1, 0, 0, 1, 0, 1]), .code (cd14 [1, 1, 1, 0, 1, 0, 0, 1, 1, 0, 0, 1, 1, 1, 0, 1, 1, 1, 0, 1]), .inBlock 2, .inBlock 1, .code (cd14 [1, 1, 1, 0, 1, 0, 0, 1, 1, 1]), .inLoop (cd14 [1, 1, 1, 0, 1, 0, 0]), .inBlock 0, .code (cd14 [1, 1, 1, 1])]) (us := [(2, .bool false)]) (by kernel_rfl) ?_
              have hS180 := hS179.drop
              have hS181 := hS180.drop
              refine runs_ret (fn := Tryd.f14) (v := .bool false) Tryd.func14 (by kernel_rfl) ?_
              have hr182 := (hq52 _ (Option.some.inj hp177))
              cases hr182
              exact hR _ _ ⟨rfl, hS181⟩
             ·skip
              have hp183 := ite_f hp170 h176
              refine q_run 1 (is' := []) (us := [(82, .bool false)]) (by kernel_rfl) ?_
              refine Qs.nil ?_
              intro w184 hS185
              refine sx_run 7 (todo' := [.inRegion (opsOf (cd14 [1, 1, 1, 0, 1, 0, 0, 1, 1, 0, 0, 1, 1, 1, 0, 1, 1, 1, 0, 1])) [4, 5, 6, 7, 8], .inBlock 2, .inBlock 1, .code (cd14 [1, 1, 1, 0, 1, 0, 0, 1, 1, 1]), .inLoop (cd14 [1, 1, 1, 0, 1, 0, 0]), .inBlock 0, .code (cd14 [1, 1, 1, 1])]) (us := [(83, .slice A13 t42.length ((a0.length : Int).toNat)), (84, .int .i64 t41), (85, .slice A13 t42.length ((a0.length : Int).toNat)), (86, .pointer (some ⟨b62, 1, none⟩))]) (by kernel_rfl) ?_
              refine r_load (c := (cd14 [1, 1, 1, 0, 1, 0, 0, 1, 1, 0, 0, 1, 1, 1, 0, 1, 1, 1, 0, 1])) (i := 4) (d := (some 87)) (ty := 3) (t := 3) (x := (.tmp 86)) (p := ⟨b62, 1, none⟩) (v := .int .i64 ((gt a0 t41).A)) (by kernel_rfl) (by kernel_rfl) (by kernel_rfl) (loads_at 1 (hS185.blk 1 rfl) (by kernel_rfl) (by kernel_rfl)) ?_
              obtain ⟨g186, hp187⟩ := ite_some hp183
              obtain ⟨b188, p189, hA190, -⟩ := (hS185.row 0 rfl).at_ (len_encI .i64) (by omega) g186.1 g186.2
              refine r_indexAddr (c := (cd14 [1, 1, 1, 0, 1, 0, 0, 1, 1, 0, 0, 1, 1, 1, 0, 1, 1, 1, 0, 1])) (i := 5) (d := (some 88)) (ty := 0) (t := 59) (e := 3) (n := t42.length) (cp := (a0.length : Int).toNat) (sz := 1) (kk := .i64) (x := (.tmp 85)) (y := (.tmp 87)) (b := b188) (o' := p189) (j := (gt a0 t41).A) (by kernel_rfl) (by kernel_rfl) (slv (by kernel_rfl) hA190) (by kernel_rfl) (by kernel_rfl) (by kernel_rfl) g186.1 g186.2 ?_
              refine r_load (c := (cd14 [1, 1, 1, 0, 1, 0, 0, 1, 1, 0, 0, 1, 1, 1, 0, 1, 1, 1, 0, 1])) (i := 6) (d := (some 89)) (ty := 3) (t := 3) (x := (.tmp 88)) (p := ⟨b188, p189 + ((gt a0 t41).A).toNat * 1, none⟩) (v := .int .i64 (gt t42 ((gt a0 t41).A))) (by kernel_rfl) (by kernel_rfl) (by kernel_rfl) (loads_at 0 ((hS185.row 0 rfl).at2 hA190 (len_encI .i64) (by omega) g186.1 g186.2) (by kernel_rfl) (by kernel_rfl)) ?_
              obtain ⟨g192, hp193⟩ := ite_some hp187
              obtain ⟨b194, p195, hA196, -⟩ := (hS185.row 0 rfl).at_ (len_encI .i64) (by omega) g192.1 g192.2
              refine r_indexAddr (c := (cd14 [1, 1, 1, 0, 1, 0, 0, 1, 1, 0, 0, 1, 1, 1, 0, 1, 1, 1, 0, 1])) (i := 7) (d := (some 90)) (ty := 0) (t := 59) (e := 3) (n := t42.length) (cp := (a0.length : Int).toNat) (sz := 1) (kk := .i64) (x := (.tmp 83)) (y := (.tmp 84)) (b := b194) (o' := p195) (j := t41) (by kernel_rfl) (by kernel_rfl) (slv (by kernel_rfl) hA196) (by kernel_rfl) (by kernel_rfl) (by kernel_rfl) g192.1 g192.2 ?_
              refine r_storeEl (c := (cd14 [1, 1, 1, 0, 1, 0, 0, 1, 1, 0, 0, 1, 1, 1, 0, 1, 1, 1, 0, 1])) (i := 8) (d := none) (ty := 0) (enc := (encI .i64)) (e := 3) (t := 3) (sz := 1) (cp := (a0.length : Int).toNat) (A := A13) (xs := t42) (x := (.tmp 90)) (y := (.tmp 89)) (el := gt t42 t41) (el' := (gt t42 ((gt a0 t41).A))) (j := t41) (off := 0) (b := b194) (p := p195) (v := .int .i64 (gt t42 ((gt a0 t41).A))) (vs := [.int .i64 (gt t42 ((gt a0 t41).A))]) (ad := ⟨b194, p195 + t41.toNat * 1, none⟩) hS185 (by kernel_rfl) (by kernel_rfl) (by kernel_rfl) (by simp) (by kernel_rfl) hA196 g192 rfl (len_encI .i64) (by kernel_rfl) (by kernel_rfl) (by kernel_rfl) (Nat.le_of_ble_eq_true (by kernel_rfl)) (Nat.le_of_ble_eq_true (by kernel_rfl)) (by kernel_rfl) ?_
              intro w198 hS199
              refine Runs.fill (m := [none, none, none, some (.slice A13 t42.length ((a0.length : Int).toNat)), none, none, none, none, none, none, none, none, none, none, none, none, none, none, none, none, none, none, none, none, none, none, none, none, none, none, none, none, none, none, none, none, none, none, none, none, none, none, none, none, none, none, none, none, none, none, none, none, none, none, none, none, none, none, none, none, none, none, none, none, none, some (.slice A13 t42.length ((a0.length : Int).toNat)), none, none, none, none, none, none, none, none, none, some (.slice A13 t42.length ((a0.length : Int).toNat)), none, none, none, none, none, none, none, some (.slice A13 t42.length ((a0.length : Int).toNat)), none, some (.slice A13 t42.length ((a0.length : Int).toNat)), none, none, none, none, none, none, none, none, none, none, none, none, none]) (by kernel_rfl) ?_
              refine Runs.refill (m' := [none, none, none, some (.slice A13 (setl t42 t41 (gt t42 ((gt a0 t41).A))).length ((a0.length : Int).toNat)), none, none, none, none, none, none, none, none, none, none, none, none, none, none, none, none, none, none, none, none, none, none, none, none, none, none, none, none, none, none, none, none, none, none, none, none, none, none, none, none, none, none, none, none, none, none, none, none, none, none, none, none, none, none, none, none, none, none, none, none, none, some (.slice A13 (setl t42 t41 (gt t42 ((gt a0 t41).A))).length ((a0.length : Int).toNat)), none, none, none, none, none, none, none, none, none, some (.slice A13 (setl t42 t41 (gt t42 ((gt a0 t41).A))).length ((a0.length : Int).toNat)), none, none, none, none, none, none, none, some (.slice A13 (setl t42 t41 (gt t42 ((gt a0 t41).A))).length ((a0.length : Int).toNat)), none, some (.slice A13 (setl t42 t41 (gt t42 ((gt a0 t41).A))).length ((a0.length : Int).toNat)), none, none, none, none, none, none, none, none, none, none, none, none, none]) (by simp only [setl_len]) ?_
              refine sx_run 7 (todo' := [.inLoop (cd14 [1, 1, 1, 0, 1, 0, 0]), .inBlock 0, .code (cd14 [1, 1, 1, 1])]) (us := [(91, .int .i64 (IntKind.i64.wrap (t41 + 1))), (19, .int .i64 (IntKind.i64.wrap (t41 + 1)))]) (by kernel_rfl) ?_
              have hS200 := hS199.pick1
              have hS201 := hS200.drop
              refine sx_run 1 (todo' := [.code (cd14 [1, 1, 1, 0, 1, 0, 0]), .inLoop (cd14 [1, 1, 1, 0, 1, 0, 0]), .inBlock 0, .code (cd14 [1, 1, 1, 1])]) (us := []) (by kernel_rfl) ?_
              refine Runs.fill (m := [some (.slice Aa0 a0.length ca0), none, none, some (.slice A13 (setl t42 t41 (gt t42 ((gt a0 t41).A))).length ((a0.length : Int).toNat)), none, none, none, none, none, none, none, none, none, none, none, none, none, some (.slice Aa0 a0.length ca0), some (.int .i64 (a0.length : Int)), some (.int .i64 (IntKind.i64.wrap (t41 + 1))), none, none, none, none, none, none, none, none, none, none, none, none, none, none, none, none, none, none, none, none, none, none, none, none, none, none, none, none, none, none, none, none, none, none, none, none, none, none, none, none, none, none, none, none, none, none, none, none, none, none, none, none, none, none, none, none, none, none, none, none, none, none, none, none, none, none, none, none, none, none, none, none, none, none, none, none, none, none, none]) (by kernel_rfl) ?_
              exact ih49 (IntKind.i64.wrap (t41 + 1)) (setl t42 t41 (gt t42 ((gt a0 t41).A))) _ hp193 he47 _ _ hS201
        refine sx_split 7 (todo' := [.inRegion (opsOf (cd14 [1, 1, 1, 0, 1, 0, 0, 1, 1, 0, 0, 1, 1, 1, 0, 1, 1, 0, 0])) [1], .code (cd14 [1, 1, 1, 0, 1, 0, 0, 1, 1, 0, 0, 1, 1, 1, 0, 1, 1, 0, 1]), .code (cd14 [1, 1, 1, 0, 1, 0, 0, 1, 1, 0, 0, 1, 1, 1, 0, 1, 1, 1]), .inBlock 2, .inBlock 1, .code (cd14 [1, 1, 1, 0, 1, 0, 0, 1, 1, 1]), .inLoop (cd14 [1, 1, 1, 0, 1, 0, 0]), .inBlock 0, .code (cd14 [1, 1, 1, 1])]) (us := [(33, .bool false)]) (d := 53) (t := (((gt a0 t41).Op) == 4)) (by kernel_rfl) (fun h202 => ?_) (fun h203 => ?_)
        ·skip
         have hp204 := ite_t hv116 h202
         refine sx_run 4 (todo' := [.code (cd14 [1, 1, 1, 0, 1, 0, 0, 1, 1, 0, 0, 1, 1, 1, 0, 1, 1, 1]), .inBlock 2, .inBlock 1, .code (cd14 [1, 1, 1, 0, 1, 0, 0, 1, 1, 1]), .inLoop (cd14 [1, 1, 1, 0, 1, 0, 0]), .inBlock 0, .code (cd14 [1, 1, 1, 1])]) (us := [(52, .bool true)]) (by kernel_rfl) ?_
         have hS205 := hS72.pick1
         refine Runs.fill (m := [some (.slice Aa0 a0.length ca0), none, none, some (.slice A13 t42.length ((a0.length : Int).toNat)), some (.int .i64 t41), some (.pointer (some ⟨b62, 0, none⟩)), none, none, none, none, none, none, none, none, none, none, none, some (.slice Aa0 a0.length ca0), some (.int .i64 (a0.length : Int)), some (.int .i64 t41), none, none, none, none, none, none, none, none, none, none, none, none, none, none, none, none, none, none, none, none, none, none, none, none, none, none, none, none, none, none, none, none, some (.bool true), none, none, none, none, none, none, none, none, none, none, none, none, none, none, none, none, none, none, none, none, none, none, none, none, none, none, none, none, none, none, none, none, none, none, none, none, none, none, none, none, none, none, none, none, none, none]) (by kernel_rfl) ?_
         exact J121 true (Option.some.inj hp204) _ _ hS205
        ·skip
         have hp206 := ite_f hv116 h203
         refine sx_split 5 (todo' := [.inRegion (opsOf (cd14 [1, 1, 1, 0, 1, 0, 0, 1, 1, 0, 0, 1, 1, 1, 0, 1, 1, 0, 1, 1])) [1], .code (cd14 [1, 1, 1, 0, 1, 0, 0, 1, 1, 0, 0, 1, 1, 1, 0, 1, 1, 1]), .inBlock 2, .inBlock 1, .code (cd14 [1, 1, 1, 0, 1, 0, 0, 1, 1, 1]), .inLoop (cd14 [1, 1, 1, 0, 1, 0, 0]), .inBlock 0, .code (cd14 [1, 1, 1, 1])]) (us := [(52, .bool false)]) (d := 54) (t := (((gt a0 t41).Op) == 5)) (by kernel_rfl) (fun h207 => ?_) (fun h208 => ?_)
         ·skip
          have hp209 := ite_t hp206 h207
          refine sx_run 2 (todo' := [.code (cd14 [1, 1, 1, 0, 1, 0, 0, 1, 1, 0, 0, 1, 1, 1, 0, 1, 1, 1]), .inBlock 2, .inBlock 1, .code (cd14 [1, 1, 1, 0, 1, 0, 0, 1, 1, 1]), .inLoop (cd14 [1, 1, 1, 0, 1, 0, 0]), .inBlock 0, .code (cd14 [1, 1, 1, 1])]) (us := [(52, .bool true)]) (by kernel_rfl) ?_
          have hS210 := hS72.pick1
          refine Runs.fill (m := [some (.slice Aa0 a0.length ca0), none, none, some (.slice A13 t42.length ((a0.length : Int).toNat)), some (.int .i64 t41), some (.pointer (some ⟨b62, 0, none⟩)), none, none, none, none, none, none, none, none, none, none, none, some (.slice Aa0 a0.length ca0), some (.int .i64 (a0.length : Int)), some (.int .i64 t41), none, none, none, none, none, none, none, none, none, none, none, none, none, none, none, none, none, none, none, none, none, none, none, none, none, none, none, none, none, none, none, none, some (.bool true), none, none, none, none, none, none, none, none, none, none, none, none, none, none, none, none, none, none, none, none, none, none, none, none, none, none, none, none, none, none, none, none, none, none, none, none, none, none, none, none, none, none, none, none, none, none]) (by kernel_rfl) ?_
          exact J121 true (Option.some.inj hp209) _ _ hS210
         ·skip
          have hp211 := ite_f hp206 h208
          refine sx_run 2 (todo' := [.code (cd14 [1, 1, 1, 0, 1, 0, 0, 1, 1, 0, 0, 1, 1, 1, 0, 1, 1, 1]), .inBlock 2, .inBlock 1, .code (cd14 [1, 1, 1, 0, 1, 0, 0, 1, 1, 1]), .inLoop (cd14 [1, 1, 1, 0, 1, 0, 0]), .inBlock 0, .code (cd14 [1, 1, 1, 1])]) (us := [(52, .bool false)]) (by kernel_rfl) ?_
          have hS212 := hS72.pick1
          refine Runs.fill (m := [some (.slice Aa0 a0.length ca0), none, none, some (.slice A13 t42.length ((a0.length : Int).toNat)), some (.int .i64 t41), some (.pointer (some ⟨b62, 0, none⟩)), none, none, none, none, none, none, none, none, none, none, none, some (.slice Aa0 a0.length ca0), some (.int .i64 (a0.length : Int)), some (.int .i64 t41), none, none, none, none, none, none, none, none, none, none, none, none, none, none, none, none, none, none, none, none, none, none, none, none, none, none, none, none, none, none, none, none, some (.bool false), none, none, none, none, none, none, none, none, none, none, none, none, none, none, none, none, none, none, none, none, none, none, none, none, none, none, none, none, none, none, none, none, none, none, none, none, none, none, none, none, none, none, none, none, none, none]) (by kernel_rfl) ?_
          exact J121 false (Option.some.inj hp211) _ _ hS212
     ·skip
      have hp213 := ite_f hb48 h54
      refine sx_run 4 (todo' := [.code (cd14 [1, 1, 1, 1])]) (us := []) (by kernel_rfl) ?_
      refine Runs.fill (m := [some (.slice Aa0 a0.length ca0), none, none, some (.slice A13 t42.length ((a0.length : Int).toNat)), none, none, none, none, none, none, none, none, none, none, none, none, none, none, none, none, none, none, none, none, none, none, none, none, none, none, none, none, none, none, none, none, none, none, none, none, none, none, none, none, none, none, none, none, none, none, none, none, none, none, none, none, none, none, none, none, none, none, none, none, none, none, none, none, none, none, none, none, none, none, none, none, none, none, none, none, none, none, none, none, none, none, none, none, none, none, none, none, none, none, none, none, none, none, none]) (by kernel_rfl) ?_
      exact J24 t42 ((Option.some.inj hp213).trans he47) _ _ hS44
    refine Runs.fill (m := [some (.slice Aa0 a0.length ca0), none, none, some (.slice A13 (List.replicate (a0.length : Int).toNat (0 : Int)).length ((a0.length : Int).toNat)), none, none, none, none, none, none, none, none, none, none, none, none, none, some (.slice Aa0 a0.length ca0), some (.int .i64 (a0.length : Int)), some (.int .i64 0), none, none, none, none, none, none, none, none, none, none, none, none, none, none, none, none, none, none, none, none, none, none, none, none, none, none, none, none, none, none, none, none, none, none, none, none, none, none, none, none, none, none, none, none, none, none, none, none, none, none, none, none, none, none, none, none, none, none, none, none, none, none, none, none, none, none, none, none, none, none, none, none, none, none, none, none, none, none, none]) (by kernel_rfl) ?_
    exact L51 0 (List.replicate (a0.length : Int).toNat (0 : Int)) _ hv18 rfl _ _ hS15

noncomputable def cd27 (p : List Nat) : Code := sub (bodyOf Tryd.f27) p
def cond_bracketed.f (a0 : Int) (a1 : Int) (a2 : Bool) : Option Bool :=
  (if (a0 == 3) = true then (if (a1 == 4) = true then some (true) else (if (a1 == 5) = true then some (true) else some (false))) else (if (a0 == 4) = true then (if (a1 == 5) = true then some (true) else (if (a1 == 4) = true then some (a2) else some (false))) else (if (a1 == 5) = true then some (a2) else some (false))))
set_option maxHeartbeats 16000000 in
theorem cond_bracketed.ok (a0 : Int) (a1 : Int) (a2 : Bool) {w0 : World} {Z : Zm} {fs : List XObj} {w : World} (hS0 : St w0 Z (fs) w) {q0 : Bool} (hp0 : cond_bracketed.f a0 a1 a2 = some q0) :
    Calls Tryd.prog 27 #[.int .i64 a0, .int .i64 a1, .bool a2] w (fun e w' => e = .returned (.bool q0) ∧ St w0 Z (fs) w') := by
  refine calls_abs ?_; intro R hR
  unfold cond_bracketed.f at hp0
  refine calls_of_runs (fn := Tryd.f27) (c := cd27 []) Tryd.func27 (by kernel_rfl) (al := [.int .i64 a0, .int .i64 a1, .bool a2]) rfl (n := 29) rfl ?_
  refine sx_split 13 (todo' := [.inRegion (opsOf (cd27 [1, 0, 1, 0, 0])) [1], .code (cd27 [1, 0, 1, 0, 1]), .inBlock 0, .code (cd27 [1, 1])]) (us := [(6, .bool false), (7, .int .i64 a0)]) (d := 9) (t := (a0 == 3)) (by kernel_rfl) (fun h1 => ?_) (fun h2 => ?_)
  ·skip
   have hp3 := ite_t hp0 h1
   refine sx_split 7 (todo' := [.inRegion (opsOf (cd27 [1, 0, 1, 0, 1, 0, 0])) [2, 3, 4, 5, 6], .code (cd27 [1, 0, 1, 0, 1, 0, 1]), .inBlock 0, .code (cd27 [1, 1])]) (us := [(8, .bool true), (10, .int .i64 a1)]) (d := 11) (t := (a1 == 4)) (by kernel_rfl) (fun h4 => ?_) (fun h5 => ?_)
   ·skip
    have hp6 := ite_t hp3 h4
    refine sx_run 6 (todo' := [.code (cd27 [1, 0, 1, 0, 1, 0, 1]), .inBlock 0, .code (cd27 [1, 1])]) (us := [(12, .bool true), (13, undef), (14, undef), (15, .bool true), (6, .bool true)]) (by kernel_rfl) ?_
    refine runs_ret (fn := Tryd.f27) (v := .bool true) Tryd.func27 (by kernel_rfl) ?_
    have hr7 := (Option.some.inj hp6)
    cases hr7
    exact hR _ _ ⟨rfl, hS0⟩
   ·skip
    have hp8 := ite_f hp3 h5
    refine sx_split 3 (todo' := [.inRegion (opsOf (cd27 [1, 0, 1, 0, 1, 0, 0])) [5, 6], .code (cd27 [1, 0, 1, 0, 1, 0, 1]), .inBlock 0, .code (cd27 [1, 1])]) (us := [(12, .bool false), (13, .int .i64 a1)]) (d := 14) (t := (a1 == 5)) (by kernel_rfl) (fun h9 => ?_) (fun h10 => ?_)
    ·skip
     have hp11 := ite_t hp8 h9
     refine sx_run 3 (todo' := [.code (cd27 [1, 0, 1, 0, 1, 0, 1]), .inBlock 0, .code (cd27 [1, 1])]) (us := [(15, .bool true), (6, .bool true)]) (by kernel_rfl) ?_
     refine runs_ret (fn := Tryd.f27) (v := .bool true) Tryd.func27 (by kernel_rfl) ?_
     have hr12 := (Option.some.inj hp11)
     cases hr12
     exact hR _ _ ⟨rfl, hS0⟩
    ·skip
     have hp13 := ite_f hp8 h10
     refine sx_run 3 (todo' := [.code (cd27 [1, 0, 1, 0, 1, 0, 1]), .inBlock 0, .code (cd27 [1, 1])]) (us := [(15, .bool false), (6, .bool false)]) (by kernel_rfl) ?_
     refine runs_ret (fn := Tryd.f27) (v := .bool false) Tryd.func27 (by kernel_rfl) ?_
     have hr14 := (Option.some.inj hp13)
     cases hr14
     exact hR _ _ ⟨rfl, hS0⟩
  ·skip
   have hp15 := ite_f hp0 h2
   refine sx_split 6 (todo' := [.inRegion (opsOf (cd27 [1, 0, 1, 0, 1, 1, 0])) [1], .code (cd27 [1, 0, 1, 0, 1, 1, 1]), .inBlock 0, .code (cd27 [1, 1])]) (us := [(8, .bool false)]) (d := 17) (t := (a0 == 4)) (by kernel_rfl) (fun h16 => ?_) (fun h17 => ?_)
   ·skip
    have hp18 := ite_t hp15 h16
    refine sx_split 7 (todo' := [.inRegion (opsOf (cd27 [1, 0, 1, 0, 1, 1, 1, 0, 0])) [2, 3, 4, 5, 6, 7, 8, 9], .code (cd27 [1, 0, 1, 0, 1, 1, 1, 0, 1]), .inBlock 0, .code (cd27 [1, 1])]) (us := [(16, .bool true), (18, .int .i64 a1)]) (d := 19) (t := (a1 == 5)) (by kernel_rfl) (fun h19 => ?_) (fun h20 => ?_)
    ·skip
     have hp21 := ite_t hp18 h19
     refine sx_run 9 (todo' := [.code (cd27 [1, 0, 1, 0, 1, 1, 1, 0, 1]), .inBlock 0, .code (cd27 [1, 1])]) (us := [(20, .bool true), (21, undef), (22, undef), (23, undef), (24, undef), (25, undef), (26, .bool true), (6, .bool true)]) (by kernel_rfl) ?_
     refine runs_ret (fn := Tryd.f27) (v := .bool true) Tryd.func27 (by kernel_rfl) ?_
     have hr22 := (Option.some.inj hp21)
     cases hr22
     exact hR _ _ ⟨rfl, hS0⟩
    ·skip
     have hp23 := ite_f hp18 h20
     refine sx_split 3 (todo' := [.inRegion (opsOf (cd27 [1, 0, 1, 0, 1, 1, 1, 0, 0])) [5, 6, 7, 8, 9], .code (cd27 [1, 0, 1, 0, 1, 1, 1, 0, 1]), .inBlock 0, .code (cd27 [1, 1])]) (us := [(20, .bool false), (21, .int .i64 a1)]) (d := 22) (t := (a1 == 4)) (by kernel_rfl) (fun h24 => ?_) (fun h25 => ?_)
     ·skip
      have hp26 := ite_t hp23 h24
      refine sx_run 6 (todo' := [.code (cd27 [1, 0, 1, 0, 1, 1, 1, 0, 1]), .inBlock 0, .code (cd27 [1, 1])]) (us := [(23, .bool true), (24, .bool a2), (25, .bool a2), (26, .bool a2), (6, .bool a2)]) (by kernel_rfl) ?_
      refine runs_ret (fn := Tryd.f27) (v := .bool a2) Tryd.func27 (by kernel_rfl) ?_
      have hr27 := (Option.some.inj hp26)
      cases hr27
      exact hR _ _ ⟨rfl, hS0⟩
     ·skip
      have hp28 := ite_f hp23 h25
      refine sx_run 6 (todo' := [.code (cd27 [1, 0, 1, 0, 1, 1, 1, 0, 1]), .inBlock 0, .code (cd27 [1, 1])]) (us := [(23, .bool false), (24, undef), (25, .bool false), (26, .bool false), (6, .bool false)]) (by kernel_rfl) ?_
      refine runs_ret (fn := Tryd.f27) (v := .bool false) Tryd.func27 (by kernel_rfl) ?_
      have hr29 := (Option.some.inj hp28)
      cases hr29
      exact hR _ _ ⟨rfl, hS0⟩
   ·skip
    have hp30 := ite_f hp15 h17
    refine sx_split 9 (todo' := [.inRegion (opsOf (cd27 [1, 1, 0])) [2, 3, 4, 5], .code (cd27 [1, 1, 1])]) (us := [(16, .bool false), (27, .int .i64 a1)]) (d := 28) (t := (a1 == 5)) (by kernel_rfl) (fun h31 => ?_) (fun h32 => ?_)
    ·skip
     have hp33 := ite_t hp30 h31
     refine sx_run 5 (todo' := [.code (cd27 [1, 1, 1])]) (us := [(29, .bool true), (30, .bool a2), (31, .bool a2), (6, .bool a2)]) (by kernel_rfl) ?_
     refine runs_ret (fn := Tryd.f27) (v := .bool a2) Tryd.func27 (by kernel_rfl) ?_
     have hr34 := (Option.some.inj hp33)
     cases hr34
     exact hR _ _ ⟨rfl, hS0⟩
    ·skip
     have hp35 := ite_f hp30 h32
     refine sx_run 5 (todo' := [.code (cd27 [1, 1, 1])]) (us := [(29, .bool false), (30, undef), (31, .bool false), (6, .bool false)]) (by kernel_rfl) ?_
     refine runs_ret (fn := Tryd.f27) (v := .bool false) Tryd.func27 (by kernel_rfl) ?_
     have hr36 := (Option.some.inj hp35)
     cases hr36
     exact hR _ _ ⟨rfl, hS0⟩

def cond_deep.Spec (rec : (List api_Node) → Int → Option Int) : Prop := ∀ (a0 : List api_Node) (a1 : Int) (Aa0 : Option Addr) (ca0 : Nat) {w0 : World} {Z : Zm} {fs : List XObj} {w : World} (_ : St w0 Z (fs) w) (_ : SlZ (flat enc_api_Node) 6 Z Aa0 ca0 a0) {q0 : Int}, rec a0 a1 = some q0 →
    Calls Tryd.prog 15 #[.slice Aa0 a0.length ca0, .int .i64 a1] w (fun e w' => e = .returned (.int .i64 q0) ∧ St w0 Z (fs) w')

noncomputable def cd26 (p : List Nat) : Code := sub (bodyOf Tryd.f26) p
def cond_deep_1_1.f (rec_cond_deep : (List api_Node) → Int → Option Int) (a0 : Int) (a1 : Bool) (a2v : List api_Node) (a3v : api_Node) : Option Int :=
  (rec_cond_deep a2v a0 >>= (fun t1 => (if 0 ≤ a0 ∧ a0 < (a2v.length : Int) then (cond_bracketed.f a3v.Op ((gt a2v a0).Op) a1 >>= (fun t12 => (if t12 = true then some ((IntKind.i64.wrap (t1 + 1))) else some (t1)))) else none)))
set_option maxHeartbeats 16000000 in
theorem cond_deep_1_1.ok (rec_cond_deep : (List api_Node) → Int → Option Int) (hrec_cond_deep : cond_deep.Spec rec_cond_deep) (a0 : Int) (a1 : Bool) (a2v : List api_Node) (a3v : api_Node) (ba2 : Nat) (Aa2v : Option Addr) (ca2v : Nat) (ba3 : Nat) {w0 : World} {Z : Zm} {fs : List XObj} {w : World} (hS0 : St w0 Z (xblk ba2 23 ([.slice Aa2v a2v.length ca2v]) :: xblk ba3 38 (enc_api_Node a3v) :: fs) w) (ha2v : SlZ (flat enc_api_Node) 6 Z Aa2v ca2v a2v) {q0 : Int} (hp0 : cond_deep_1_1.f rec_cond_deep a0 a1 a2v a3v = some q0) :
    Calls Tryd.prog 26 #[.int .i64 a0, .bool a1, .pointer (some ⟨ba2, 0, none⟩), .pointer (some ⟨ba3, 0, none⟩)] w (fun e w' => e = .returned (.int .i64 q0) ∧ St w0 Z (xblk ba2 23 ([.slice Aa2v a2v.length ca2v]) :: xblk ba3 38 (enc_api_Node a3v) :: fs) w') := by
  refine calls_abs ?_; intro R hR
  unfold cond_deep_1_1.f at hp0
  refine calls_of_runs (fn := Tryd.f26) (c := cd26 []) Tryd.func26 (by kernel_rfl) (al := [.int .i64 a0, .bool a1, .pointer (some ⟨ba2, 0, none⟩), .pointer (some ⟨ba3, 0, none⟩)]) rfl (n := 19) rfl ?_
  refine sx_run 6 (todo' := [.inRegion (opsOf (cd26 [1, 0])) [0, 1, 2, 3], .code (cd26 [1, 1])]) (us := [(6, .int .i64 0)]) (by kernel_rfl) ?_
  refine r_load (c := (cd26 [1, 0])) (i := 0) (d := (some 8)) (ty := 23) (t := 23) (x := (.tmp 2)) (p := ⟨ba2, 0, none⟩) (v := .slice Aa2v a2v.length ca2v) (by kernel_rfl) (by kernel_rfl) (by kernel_rfl) (loads_at 0 (hS0.blk 0 rfl) (by kernel_rfl) (by kernel_rfl)) ?_
  refine sx_run 1 (todo' := [.inRegion (opsOf (cd26 [1, 0])) [2, 3], .code (cd26 [1, 1])]) (us := [(9, .int .i64 a0)]) (by kernel_rfl) ?_
  obtain ⟨t1, hr2, hp3⟩ := bind_some' hp0
  refine r_call1 (c := (cd26 [1, 0])) (i := 2) (d := (some 10)) (g := 15) (args := #[.slice Aa2v a2v.length ca2v, .int .i64 a0]) (by kernel_rfl) (by kernel_rfl) (by kernel_rfl) (by kernel_rfl) (hrec_cond_deep a2v a0 Aa2v ca2v hS0 ha2v hr2) ?_
  rintro _ w4 ⟨rfl, hS5⟩
  refine ⟨.int .i64 t1, rfl, ?_⟩
  refine sx_run 4 (todo' := [.code (cd26 [1, 1, 0, 0]), .code (cd26 [1, 1, 0, 1]), .code (cd26 [1, 1, 1])]) (us := [(7, .int .i64 t1)]) (by kernel_rfl) ?_
  refine r_quiet hS5 (c := (cd26 [1, 1, 0, 0])) (id := 2) (by kernel_rfl) (by kernel_rfl) (by kernel_rfl) (is := [0, 1, 2, 3, 4, 5, 6, 7, 8]) (by kernel_rfl) ?_
  refine q_run 1 (is' := [1, 2, 3, 4, 5, 6, 7, 8]) (us := [(11, .pointer (some ⟨ba3, 0, none⟩))]) (by kernel_rfl) ?_
  refine q_load (c := (cd26 [1, 1, 0, 0])) (i := 1) (d := (some 12)) (ty := 3) (t := 3) (x := (.tmp 11)) (p := ⟨ba3, 0, none⟩) (v := .int .i64 a3v.Op) (by kernel_rfl) (by kernel_rfl) (by kernel_rfl) (fun w hC => (loads_at 0 (hC.blk 1 rfl) (by kernel_rfl) (by kernel_rfl))) ?_
  refine q_load (c := (cd26 [1, 1, 0, 0])) (i := 2) (d := (some 13)) (ty := 23) (t := 23) (x := (.tmp 2)) (p := ⟨ba2, 0, none⟩) (v := .slice Aa2v a2v.length ca2v) (by kernel_rfl) (by kernel_rfl) (by kernel_rfl) (fun w hC => (loads_at 0 (hC.blk 0 rfl) (by kernel_rfl) (by kernel_rfl))) ?_
  refine q_run 1 (is' := [4, 5, 6, 7, 8]) (us := [(14, .int .i64 a0)]) (by kernel_rfl) ?_
  obtain ⟨g6, hp7⟩ := ite_some hp3
  obtain ⟨b8, p9, hA10, hc11⟩ := ha2v.atF g6.1 g6.2
  refine q_indexAddr (c := (cd26 [1, 1, 0, 0])) (i := 4) (d := (some 15)) (ty := 0) (t := 23) (e := 38) (n := a2v.length) (cp := ca2v) (sz := 6) (kk := .i64) (x := (.tmp 13)) (y := (.tmp 14)) (b := b8) (o' := p9) (j := a0) (by kernel_rfl) (by kernel_rfl) (slv (by kernel_rfl) hA10) (by kernel_rfl) (by kernel_rfl) (by kernel_rfl) g6.1 g6.2 ?_
  refine q_run 1 (is' := [6, 7, 8]) (us := [(16, .pointer (some ⟨b8, p9 + a0.toNat * 6, none⟩))]) (by kernel_rfl) ?_
  refine q_load (c := (cd26 [1, 1, 0, 0])) (i := 6) (d := (some 17)) (ty := 3) (t := 3) (x := (.tmp 16)) (p := ⟨b8, p9 + a0.toNat * 6, none⟩) (v := .int .i64 ((gt a2v a0).Op)) (by kernel_rfl) (by kernel_rfl) (by kernel_rfl) (fun w hC => (loads_at 0 (hc11.cells hC) (by kernel_rfl) (by kernel_rfl))) ?_
  refine q_run 1 (is' := [8]) (us := [(18, .bool a1)]) (by kernel_rfl) ?_
  obtain ⟨t12, hr13, hp14⟩ := bind_some' hp7
  refine q_call1 (c := (cd26 [1, 1, 0, 0])) (i := 8) (d := (some 19)) (v := .bool t12) (g := 27) (args := #[.int .i64 a3v.Op, .int .i64 ((gt a2v a0).Op), .bool a1]) (by kernel_rfl) (by kernel_rfl) (by kernel_rfl) (by kernel_rfl) (fun w hC => by
   refine (cond_bracketed.ok a3v.Op ((gt a2v a0).Op) a1 hC hr13).mono ?_
   rintro e w2 ⟨rfl, h2⟩
   have hS15 := h2.pick1
   have hS16 := hS15.pick1
   exact ⟨rfl, hS16⟩) ?_
  refine Qs.nil ?_
  intro w17 hS18
  cases t12
  ·skip
   have hp19 := ite_f hp14 rfl
   refine sx_run 7 (todo' := [.code (cd26 [1, 1, 1, 1])]) (us := [(22, .int .i64 t1), (6, .int .i64 t1)]) (by kernel_rfl) ?_
   refine runs_ret (fn := Tryd.f26) (v := .int .i64 t1) Tryd.func26 (by kernel_rfl) ?_
   have hr20 := (Option.some.inj hp19)
   cases hr20
   exact hR _ _ ⟨rfl, hS18⟩
  ·skip
   have hp21 := ite_t hp14 rfl
   refine sx_run 11 (todo' := [.code (cd26 [1, 1, 1, 1])]) (us := [(20, .int .i64 t1), (21, .int .i64 (IntKind.i64.wrap (t1 + 1))), (7, .int .i64 (IntKind.i64.wrap (t1 + 1))), (22, .int .i64 (IntKind.i64.wrap (t1 + 1))), (6, .int .i64 (IntKind.i64.wrap (t1 + 1)))]) (by kernel_rfl) ?_
   refine runs_ret (fn := Tryd.f26) (v := .int .i64 (IntKind.i64.wrap (t1 + 1))) Tryd.func26 (by kernel_rfl) ?_
   have hr22 := (Option.some.inj hp21)
   cases hr22
   exact hR _ _ ⟨rfl, hS18⟩

noncomputable def cd15 (p : List Nat) : Code := sub (bodyOf Tryd.f15) p
def cond_deep.body (rec_cond_deep : (List api_Node) → Int → Option Int) (a0 : List api_Node) (a1 : Int) : Option Int :=
  (if 0 ≤ a1 ∧ a1 < (a0.length : Int) then (if (((gt a0 a1).Op) == 3) = true then (cond_deep_1_1.f rec_cond_deep ((gt a0 a1).A) false a0 (gt a0 a1) >>= (fun t20 => some ((IntKind.i64.wrap (1 + t20))))) else (((if (((gt a0 a1).Op) == 4) = true then some (true) else (if (((gt a0 a1).Op) == 5) = true then some (true) else some (false))) : Option Bool) >>= (fun t34 => (if t34 = true then (cond_deep_1_1.f rec_cond_deep ((gt a0 a1).A) false a0 (gt a0 a1) >>= (fun t45 => (cond_deep_1_1.f rec_cond_deep ((gt a0 a1).B) true a0 (gt a0 a1) >>= (fun t51 => some ((bmax t45 t51)))))) else some (0))))) else none)
set_option maxHeartbeats 16000000 in
theorem cond_deep.bok (rec_cond_deep : (List api_Node) → Int → Option Int) (hrec_cond_deep : cond_deep.Spec rec_cond_deep) : cond_deep.Spec (cond_deep.body rec_cond_deep) := by
  intro a0 a1 Aa0 ca0 w0 Z fs w hS0 ha0 q0 hp0
  refine calls_abs ?_; intro R hR
  unfold cond_deep.body at hp0
  refine calls_of_runs (fn := Tryd.f15) (c := cd15 []) Tryd.func15 (by kernel_rfl) (al := [.slice Aa0 a0.length ca0, .int .i64 a1]) rfl (n := 31) rfl ?_
  refine sx_run 2 (todo' := [.inRegion (opsOf (cd15 [0])) [0, 1], .code (cd15 [1])]) (us := []) (by kernel_rfl) ?_
  refine r_box (c := (cd15 [0])) (i := 0) (d := (some 2)) (ty := 0) (x := (.tmp 0)) (v := .slice Aa0 a0.length ca0) (t := 23) (cs := [.slice Aa0 a0.length ca0]) hS0 (by kernel_rfl) (by kernel_rfl) (by kernel_rfl) (by kernel_rfl) ?_
  intro b1 w2 hS3
  refine sx_run 4 (todo' := [.inRegion (opsOf (cd15 [1, 0])) [0, 1, 2, 3, 4, 5], .code (cd15 [1, 1])]) (us := [(4, .int .i64 0)]) (by kernel_rfl) ?_
  refine r_load (c := (cd15 [1, 0])) (i := 0) (d := (some 7)) (ty := 23) (t := 23) (x := (.tmp 2)) (p := ⟨b1, 0, none⟩) (v := .slice Aa0 a0.length ca0) (by kernel_rfl) (by kernel_rfl) (by kernel_rfl) (loads_at 0 (hS3.blk 0 rfl) (by kernel_rfl) (by kernel_rfl)) ?_
  refine sx_run 1 (todo' := [.inRegion (opsOf (cd15 [1, 0])) [2, 3, 4, 5], .code (cd15 [1, 1])]) (us := [(8, .int .i64 a1)]) (by kernel_rfl) ?_
  obtain ⟨g5, hp6⟩ := ite_some hp0
  obtain ⟨b7, p8, hA9, hc10⟩ := ha0.atF g5.1 g5.2
  refine r_indexAddr (c := (cd15 [1, 0])) (i := 2) (d := (some 9)) (ty := 0) (t := 23) (e := 38) (n := a0.length) (cp := ca0) (sz := 6) (kk := .i64) (x := (.tmp 7)) (y := (.tmp 8)) (b := b7) (o' := p8) (j := a1) (by kernel_rfl) (by kernel_rfl) (slv (by kernel_rfl) hA9) (by kernel_rfl) (by kernel_rfl) (by kernel_rfl) g5.1 g5.2 ?_
  refine r_load (c := (cd15 [1, 0])) (i := 3) (d := (some 10)) (ty := 38) (t := 38) (x := (.tmp 9)) (p := ⟨b7, p8 + a1.toNat * 6, none⟩) (v := .agg (enc_api_Node (gt a0 a1)).toArray) (by kernel_rfl) (by kernel_rfl) (by kernel_rfl) (loads_agg (hc10.cells hS3) (by kernel_rfl) (by kernel_rfl)) ?_
  refine r_alloc (c := (cd15 [1, 0])) (i := 4) (d := (some 5)) (ty := 0) (z := .agg (enc_api_Node (⟨0, 0, 0, ⟨0, (⟨#[]⟩ : ByteArray)⟩, 0⟩ : api_Node)).toArray) (t := 38) (cs := enc_api_Node (⟨0, 0, 0, ⟨0, (⟨#[]⟩ : ByteArray)⟩, 0⟩ : api_Node)) hS3 (by kernel_rfl) (by kernel_rfl) (by kernel_rfl) (by kernel_rfl) ?_
  intro b11 w12 hS13
  refine r_store (c := (cd15 [1, 0])) (i := 5) (d := none) (ty := 0) (t := 38) (x := (.tmp 5)) (y := (.tmp 10)) (b := b11) (o := 0) (e := 38) (cs := enc_api_Node (⟨0, 0, 0, ⟨0, (⟨#[]⟩ : ByteArray)⟩, 0⟩ : api_Node)) (v := .agg (enc_api_Node (gt a0 a1)).toArray) (vs := enc_api_Node (gt a0 a1)) (cs' := enc_api_Node (gt a0 a1)) hS13 (by kernel_rfl) (by kernel_rfl) (by kernel_rfl) (by kernel_rfl) (by kernel_rfl) (by kernel_rfl) (one_api_Node _) (Nat.le_of_ble_eq_true (by kernel_rfl)) (by kernel_rfl) ?_
  intro w15 hS16
  refine sx_run 10 (todo' := [.inRegion (opsOf (cd15 [1, 1, 1, 0, 0])) [1], .code (cd15 [1, 1, 1, 0, 1]), .code (cd15 [1, 1, 1, 1])]) (us := [(11, .func (.func 26) #[] #[.pointer (some ⟨b1, 0, none⟩), .pointer (some ⟨b11, 0, none⟩)]), (6, .func (.func 26) #[] #[.pointer (some ⟨b1, 0, none⟩), .pointer (some ⟨b11, 0, none⟩)]), (12, .pointer (some ⟨b11, 0, none⟩))]) (by kernel_rfl) ?_
  refine r_load (c := (cd15 [1, 1, 1, 0, 0])) (i := 1) (d := (some 13)) (ty := 3) (t := 3) (x := (.tmp 12)) (p := ⟨b11, 0, none⟩) (v := .int .i64 ((gt a0 a1).Op)) (by kernel_rfl) (by kernel_rfl) (by kernel_rfl) (loads_at 0 (hS16.blk 0 rfl) (by kernel_rfl) (by kernel_rfl)) ?_
  refine sx_split 5 (todo' := [.inRegion (opsOf (cd15 [1, 1, 1, 0, 1, 0, 0])) [1], .code (cd15 [1, 1, 1, 0, 1, 0, 1]), .inBlock 0, .code (cd15 [1, 1, 1, 1])]) (us := []) (d := 15) (t := (((gt a0 a1).Op) == 3)) (by kernel_rfl) (fun h17 => ?_) (fun h18 => ?_)
  ·skip
   have hp19 := ite_t hp6 h17
   refine sx_run 7 (todo' := [.inRegion (opsOf (cd15 [1, 1, 1, 0, 1, 0, 1, 0, 0])) [2, 3, 4, 5], .code (cd15 [1, 1, 1, 0, 1, 0, 1, 0, 1]), .inBlock 0, .code (cd15 [1, 1, 1, 1])]) (us := [(14, .bool true), (16, .func (.func 26) #[] #[.pointer (some ⟨b1, 0, none⟩), .pointer (some ⟨b11, 0, none⟩)]), (17, .pointer (some ⟨b11, 1, none⟩))]) (by kernel_rfl) ?_
   refine r_load (c := (cd15 [1, 1, 1, 0, 1, 0, 1, 0, 0])) (i := 2) (d := (some 18)) (ty := 3) (t := 3) (x := (.tmp 17)) (p := ⟨b11, 1, none⟩) (v := .int .i64 ((gt a0 a1).A)) (by kernel_rfl) (by kernel_rfl) (by kernel_rfl) (loads_at 1 (hS16.blk 0 rfl) (by kernel_rfl) (by kernel_rfl)) ?_
   obtain ⟨t20, hr21, hp22⟩ := bind_some' hp19
   have hS24 := hS16.pick1
   refine r_call1 (c := (cd15 [1, 1, 1, 0, 1, 0, 1, 0, 0])) (i := 3) (d := (some 19)) (g := 26) (args := #[.int .i64 ((gt a0 a1).A), .bool false, .pointer (some ⟨b1, 0, none⟩), .pointer (some ⟨b11, 0, none⟩)]) (by kernel_rfl) (by kernel_rfl) (by kernel_rfl) (by kernel_rfl) (cond_deep_1_1.ok rec_cond_deep hrec_cond_deep ((gt a0 a1).A) false a0 (gt a0 a1) b1 Aa0 ca0 b11 hS24 ha0 hr21) ?_
   rintro _ w25 ⟨rfl, hS26⟩
   refine ⟨.int .i64 t20, rfl, ?_⟩
   refine sx_run 3 (todo' := [.code (cd15 [1, 1, 1, 0, 1, 0, 1, 0, 1]), .inBlock 0, .code (cd15 [1, 1, 1, 1])]) (us := [(20, .int .i64 (IntKind.i64.wrap (1 + t20))), (4, .int .i64 (IntKind.i64.wrap (1 + t20)))]) (by kernel_rfl) ?_
   have hS27 := hS26.drop
   have hS28 := hS27.drop
   refine runs_ret (fn := Tryd.f15) (v := .int .i64 (IntKind.i64.wrap (1 + t20))) Tryd.func15 (by kernel_rfl) ?_
   have hr29 := (Option.some.inj hp22)
   cases hr29
   exact hR _ _ ⟨rfl, hS28⟩
  ·skip
   have hp30 := ite_f hp6 h18
   obtain ⟨v31, hv32, hp33⟩ := bind_some' hp30
   have J37 : ∀ (t34 : Bool) (he39 : t34 = v31) (l38 : List Value) (w35 : World) (hS36 : St w0 Z (xblk b11 38 (enc_api_Node (gt a0 a1)) :: xblk b1 23 ([.slice Aa0 a0.length ca0]) :: fs) w35), Runs Tryd.prog 15 [.code (cd15 [1, 1, 1, 0, 1, 0, 1, 1, 1]), .inBlock 0, .code (cd15 [1, 1, 1, 1])] (fill [none, none, none, none, none, some (.pointer (some ⟨b11, 0, none⟩)), some (.func (.func 26) #[] #[.pointer (some ⟨b1, 0, none⟩), .pointer (some ⟨b11, 0, none⟩)]), none, none, none, none, none, none, none, none, none, none, none, none, none, none, some (.bool t34), none, none, none, none, none, none, none, none, none, none, none] l38) w35 R := by
    intro t34 he39 l38 w35 hS36
    subst he39
    try dsimp only at hp33
    cases t34
    ·skip
     have hp40 := ite_f hp33 rfl
     refine sx_run 7 (todo' := [.code (cd15 [1, 1, 1, 1, 1])]) (us := [(4, .int .i64 0)]) (by kernel_rfl) ?_
     have hS41 := hS36.drop
     have hS42 := hS41.drop
     refine runs_ret (fn := Tryd.f15) (v := .int .i64 0) Tryd.func15 (by kernel_rfl) ?_
     have hr43 := (Option.some.inj hp40)
     cases hr43
     exact hR _ _ ⟨rfl, hS42⟩
    ·skip
     have hp44 := ite_t hp33 rfl
     refine sx_run 2 (todo' := [.code (cd15 [1, 1, 1, 0, 1, 0, 1, 1, 1, 0, 0]), .code (cd15 [1, 1, 1, 0, 1, 0, 1, 1, 1, 0, 1]), .inBlock 0, .code (cd15 [1, 1, 1, 1])]) (us := []) (by kernel_rfl) ?_
     refine r_quiet hS36 (c := (cd15 [1, 1, 1, 0, 1, 0, 1, 1, 1, 0, 0])) (id := 8) (by kernel_rfl) (by kernel_rfl) (by kernel_rfl) (is := [0, 1, 2, 3, 4, 5, 6, 7, 8, 9]) (by kernel_rfl) ?_
     refine q_run 2 (is' := [2, 3, 4, 5, 6, 7, 8, 9]) (us := [(24, .func (.func 26) #[] #[.pointer (some ⟨b1, 0, none⟩), .pointer (some ⟨b11, 0, none⟩)]), (25, .pointer (some ⟨b11, 1, none⟩))]) (by kernel_rfl) ?_
     refine q_load (c := (cd15 [1, 1, 1, 0, 1, 0, 1, 1, 1, 0, 0])) (i := 2) (d := (some 26)) (ty := 3) (t := 3) (x := (.tmp 25)) (p := ⟨b11, 1, none⟩) (v := .int .i64 ((gt a0 a1).A)) (by kernel_rfl) (by kernel_rfl) (by kernel_rfl) (fun w hC => (loads_at 1 (hC.blk 0 rfl) (by kernel_rfl) (by kernel_rfl))) ?_
     obtain ⟨t45, hr46, hp47⟩ := bind_some' hp44
     refine q_call1 (c := (cd15 [1, 1, 1, 0, 1, 0, 1, 1, 1, 0, 0])) (i := 3) (d := (some 27)) (v := .int .i64 t45) (g := 26) (args := #[.int .i64 ((gt a0 a1).A), .bool false, .pointer (some ⟨b1, 0, none⟩), .pointer (some ⟨b11, 0, none⟩)]) (by kernel_rfl) (by kernel_rfl) (by kernel_rfl) (by kernel_rfl) (fun w hC => by
      have hS49 := hC.pick1
      refine (cond_deep_1_1.ok rec_cond_deep hrec_cond_deep ((gt a0 a1).A) false a0 (gt a0 a1) b1 Aa0 ca0 b11 hS49 ha0 hr46).mono ?_
      rintro e w2 ⟨rfl, h2⟩
      have hS50 := h2.pick1
      exact ⟨rfl, hS50⟩) ?_
     refine q_run 2 (is' := [6, 7, 8, 9]) (us := [(28, .func (.func 26) #[] #[.pointer (some ⟨b1, 0, none⟩), .pointer (some ⟨b11, 0, none⟩)]), (29, .pointer (some ⟨b11, 2, none⟩))]) (by kernel_rfl) ?_
     refine q_load (c := (cd15 [1, 1, 1, 0, 1, 0, 1, 1, 1, 0, 0])) (i := 6) (d := (some 30)) (ty := 3) (t := 3) (x := (.tmp 29)) (p := ⟨b11, 2, none⟩) (v := .int .i64 ((gt a0 a1).B)) (by kernel_rfl) (by kernel_rfl) (by kernel_rfl) (fun w hC => (loads_at 2 (hC.blk 0 rfl) (by kernel_rfl) (by kernel_rfl))) ?_
     obtain ⟨t51, hr52, hp53⟩ := bind_some' hp47
     refine q_call1 (c := (cd15 [1, 1, 1, 0, 1, 0, 1, 1, 1, 0, 0])) (i := 7) (d := (some 31)) (v := .int .i64 t51) (g := 26) (args := #[.int .i64 ((gt a0 a1).B), .bool true, .pointer (some ⟨b1, 0, none⟩), .pointer (some ⟨b11, 0, none⟩)]) (by kernel_rfl) (by kernel_rfl) (by kernel_rfl) (by kernel_rfl) (fun w hC => by
      have hS55 := hC.pick1
      refine (cond_deep_1_1.ok rec_cond_deep hrec_cond_deep ((gt a0 a1).B) true a0 (gt a0 a1) b1 Aa0 ca0 b11 hS55 ha0 hr52).mono ?_
      rintro e w2 ⟨rfl, h2⟩
      have hS56 := h2.pick1
      exact ⟨rfl, hS56⟩) ?_
     refine q_run 2 (is' := []) (us := [(32, .int .i64 (bmax t45 t51)), (4, .int .i64 (bmax t45 t51))]) (by kernel_rfl) ?_
     refine Qs.nil ?_
     intro w57 hS58
     have hS59 := hS58.drop
     have hS60 := hS59.drop
     refine runs_ret (fn := Tryd.f15) (v := .int .i64 (bmax t45 t51)) Tryd.func15 (by kernel_rfl) ?_
     have hr61 := (Option.some.inj hp53)
     cases hr61
     exact hR _ _ ⟨rfl, hS60⟩
   refine sx_split 7 (todo' := [.inRegion (opsOf (cd15 [1, 1, 1, 0, 1, 0, 1, 1, 0, 0])) [1], .code (cd15 [1, 1, 1, 0, 1, 0, 1, 1, 0, 1]), .code (cd15 [1, 1, 1, 0, 1, 0, 1, 1, 1]), .inBlock 0, .code (cd15 [1, 1, 1, 1])]) (us := [(14, .bool false)]) (d := 22) (t := (((gt a0 a1).Op) == 4)) (by kernel_rfl) (fun h62 => ?_) (fun h63 => ?_)
   ·skip
    have hp64 := ite_t hv32 h62
    refine sx_run 4 (todo' := [.code (cd15 [1, 1, 1, 0, 1, 0, 1, 1, 1]), .inBlock 0, .code (cd15 [1, 1, 1, 1])]) (us := [(21, .bool true)]) (by kernel_rfl) ?_
    refine Runs.fill (m := [none, none, none, none, none, some (.pointer (some ⟨b11, 0, none⟩)), some (.func (.func 26) #[] #[.pointer (some ⟨b1, 0, none⟩), .pointer (some ⟨b11, 0, none⟩)]), none, none, none, none, none, none, none, none, none, none, none, none, none, none, some (.bool true), none, none, none, none, none, none, none, none, none, none, none]) (by kernel_rfl) ?_
    exact J37 true (Option.some.inj hp64) _ _ hS16
   ·skip
    have hp65 := ite_f hv32 h63
    refine sx_split 5 (todo' := [.inRegion (opsOf (cd15 [1, 1, 1, 0, 1, 0, 1, 1, 0, 1, 1])) [1], .code (cd15 [1, 1, 1, 0, 1, 0, 1, 1, 1]), .inBlock 0, .code (cd15 [1, 1, 1, 1])]) (us := [(21, .bool false)]) (d := 23) (t := (((gt a0 a1).Op) == 5)) (by kernel_rfl) (fun h66 => ?_) (fun h67 => ?_)
    ·skip
     have hp68 := ite_t hp65 h66
     refine sx_run 2 (todo' := [.code (cd15 [1, 1, 1, 0, 1, 0, 1, 1, 1]), .inBlock 0, .code (cd15 [1, 1, 1, 1])]) (us := [(21, .bool true)]) (by kernel_rfl) ?_
     refine Runs.fill (m := [none, none, none, none, none, some (.pointer (some ⟨b11, 0, none⟩)), some (.func (.func 26) #[] #[.pointer (some ⟨b1, 0, none⟩), .pointer (some ⟨b11, 0, none⟩)]), none, none, none, none, none, none, none, none, none, none, none, none, none, none, some (.bool true), none, none, none, none, none, none, none, none, none, none, none]) (by kernel_rfl) ?_
     exact J37 true (Option.some.inj hp68) _ _ hS16
    ·skip
     have hp69 := ite_f hp65 h67
     refine sx_run 2 (todo' := [.code (cd15 [1, 1, 1, 0, 1, 0, 1, 1, 1]), .inBlock 0, .code (cd15 [1, 1, 1, 1])]) (us := [(21, .bool false)]) (by kernel_rfl) ?_
     refine Runs.fill (m := [none, none, none, none, none, some (.pointer (some ⟨b11, 0, none⟩)), some (.func (.func 26) #[] #[.pointer (some ⟨b1, 0, none⟩), .pointer (some ⟨b11, 0, none⟩)]), none, none, none, none, none, none, none, none, none, none, none, none, none, none, some (.bool false), none, none, none, none, none, none, none, none, none, none, none]) (by kernel_rfl) ?_
     exact J37 false (Option.some.inj hp69) _ _ hS16
def cond_deep.f : Nat → (List api_Node) → Int → Option Int
  | 0 => fun _ _ => none
  | n + 1 => cond_deep.body (cond_deep.f n)
theorem cond_deep.all : ∀ n, cond_deep.Spec (cond_deep.f n)
  | 0 => by
    intro a0 a1 Aa0 ca0 w0 Z fs w hS0 ha0 q0 hp0
    cases hp0
  | n + 1 => cond_deep.bok (cond_deep.f n) (cond_deep.all n)
theorem cond_deep.ok : cond_deep.Spec (cond_deep.f fuelN) := cond_deep.all fuelN

noncomputable def cd8 (p : List Nat) : Code := sub (bodyOf Tryd.f8) p
def cond_Check.f (a0 : List api_Node) : Option Int :=
  (cond_makes.f a0 >>= (fun t1 => (if (!t1) = true then some (60) else (cond_deep.f fuelN a0 (IntKind.i64.wrap ((a0.length : Int) - 1)) >>= (fun t11 => (if (decide (t11 > 64)) = true then some (2) else some (0)))))))
set_option maxHeartbeats 16000000 in
theorem cond_Check.ok (a0 : List api_Node) (Aa0 : Option Addr) (ca0 : Nat) {w0 : World} {Z : Zm} {fs : List XObj} {w : World} (hS0 : St w0 Z (fs) w) (ha0 : SlZ (flat enc_api_Node) 6 Z Aa0 ca0 a0) {q0 : Int} (hp0 : cond_Check.f a0 = some q0) :
    Calls Tryd.prog 8 #[.slice Aa0 a0.length ca0] w (fun e w' => e = .returned (.int .i64 q0) ∧ St w0 Z (fs) w') := by
  refine calls_abs ?_; intro R hR
  unfold cond_Check.f at hp0
  refine calls_of_runs (fn := Tryd.f8) (c := cd8 []) Tryd.func8 (by kernel_rfl) (al := [.slice Aa0 a0.length ca0]) rfl (n := 11) rfl ?_
  refine sx_run 8 (todo' := [.inRegion (opsOf (cd8 [1, 0, 0])) [1, 2], .code (cd8 [1, 0, 1]), .code (cd8 [1, 1])]) (us := [(2, .int .i64 0), (3, .slice Aa0 a0.length ca0)]) (by kernel_rfl) ?_
  obtain ⟨t1, hr2, hp3⟩ := bind_some' hp0
  refine r_call1 (c := (cd8 [1, 0, 0])) (i := 1) (d := (some 4)) (g := 14) (args := #[.slice Aa0 a0.length ca0]) (by kernel_rfl) (by kernel_rfl) (by kernel_rfl) (by kernel_rfl) (cond_makes.ok a0 Aa0 ca0 hS0 ha0 hr2) ?_
  rintro _ w4 ⟨rfl, hS5⟩
  refine ⟨.bool t1, rfl, ?_⟩
  refine sx_split 1 (todo' := [.inRegion (opsOf (cd8 [1, 0, 0])) [], .code (cd8 [1, 0, 1]), .code (cd8 [1, 1])]) (us := []) (d := 5) (t := (!t1)) (by kernel_rfl) (fun h6 => ?_) (fun h7 => ?_)
  ·skip
   have hp8 := ite_t hp3 h6
   refine sx_run 6 (todo' := [.code (cd8 [1, 0, 1, 0, 1]), .code (cd8 [1, 1])]) (us := [(2, .int .i64 60)]) (by kernel_rfl) ?_
   refine runs_ret (fn := Tryd.f8) (v := .int .i64 60) Tryd.func8 (by kernel_rfl) ?_
   have hr9 := (Option.some.inj hp8)
   cases hr9
   exact hR _ _ ⟨rfl, hS5⟩
  ·skip
   have hp10 := ite_f hp3 h7
   refine sx_run 10 (todo' := [.inRegion (opsOf (cd8 [1, 1, 0, 0])) [4, 5], .code (cd8 [1, 1, 0, 1]), .code (cd8 [1, 1, 1])]) (us := [(6, .slice Aa0 a0.length ca0), (7, .slice Aa0 a0.length ca0), (8, .int .i64 (a0.length : Int)), (9, .int .i64 (IntKind.i64.wrap ((a0.length : Int) - 1)))]) (by kernel_rfl) ?_
   obtain ⟨t11, hr12, hp13⟩ := bind_some' hp10
   refine r_call1 (c := (cd8 [1, 1, 0, 0])) (i := 4) (d := (some 10)) (g := 15) (args := #[.slice Aa0 a0.length ca0, .int .i64 (IntKind.i64.wrap ((a0.length : Int) - 1))]) (by kernel_rfl) (by kernel_rfl) (by kernel_rfl) (by kernel_rfl) (cond_deep.ok a0 (IntKind.i64.wrap ((a0.length : Int) - 1)) Aa0 ca0 hS5 ha0 hr12) ?_
   rintro _ w14 ⟨rfl, hS15⟩
   refine ⟨.int .i64 t11, rfl, ?_⟩
   refine sx_split 1 (todo' := [.inRegion (opsOf (cd8 [1, 1, 0, 0])) [], .code (cd8 [1, 1, 0, 1]), .code (cd8 [1, 1, 1])]) (us := []) (d := 11) (t := (decide (t11 > 64))) (by kernel_rfl) (fun h16 => ?_) (fun h17 => ?_)
   ·skip
    have hp18 := ite_t hp13 h16
    refine sx_run 6 (todo' := [.code (cd8 [1, 1, 0, 1, 0, 1]), .code (cd8 [1, 1, 1])]) (us := [(2, .int .i64 2)]) (by kernel_rfl) ?_
    refine runs_ret (fn := Tryd.f8) (v := .int .i64 2) Tryd.func8 (by kernel_rfl) ?_
    have hr19 := (Option.some.inj hp18)
    cases hr19
    exact hR _ _ ⟨rfl, hS15⟩
   ·skip
    have hp20 := ite_f hp13 h17
    refine sx_run 7 (todo' := [.code (cd8 [1, 1, 1, 1])]) (us := [(2, .int .i64 0)]) (by kernel_rfl) ?_
    refine runs_ret (fn := Tryd.f8) (v := .int .i64 0) Tryd.func8 (by kernel_rfl) ?_
    have hr21 := (Option.some.inj hp20)
    cases hr21
    exact hR _ _ ⟨rfl, hS15⟩

noncomputable def cd20 (p : List Nat) : Code := sub (bodyOf Tryd.f20) p
def cond_refText.f (a0 : api_Ref) : Option ByteArray :=
  (if (decide (a0.Thread < 0)) = true then some (a0.Name) else (strconv_Itoa.f a0.Thread >>= (fun t11 => (if t11.size + (⟨#[58]⟩ : ByteArray).size ≤ 9223372036854775807 then (if (t11 ++ (⟨#[58]⟩ : ByteArray)).size + a0.Name.size ≤ 9223372036854775807 then some (((t11 ++ (⟨#[58]⟩ : ByteArray)) ++ a0.Name)) else none) else none))))
set_option maxHeartbeats 16000000 in
theorem cond_refText.ok (a0 : api_Ref) {w0 : World} {Z : Zm} {fs : List XObj} {w : World} (hS0 : St w0 Z (fs) w) (hE : Env Z) {q0 : ByteArray} (hp0 : cond_refText.f a0 = some q0) :
    Calls Tryd.prog 20 #[.agg (enc_api_Ref a0).toArray] w (fun e w' => e = .returned (.string q0) ∧ St w0 Z (fs) w') := by
  refine calls_abs ?_; intro R hR
  unfold cond_refText.f at hp0
  refine calls_of_runs (fn := Tryd.f20) (c := cd20 []) Tryd.func20 (by kernel_rfl) (al := [.agg (enc_api_Ref a0).toArray]) rfl (n := 14) rfl ?_
  refine sx_run 2 (todo' := [.inRegion (opsOf (cd20 [0])) [0, 1], .code (cd20 [1])]) (us := []) (by kernel_rfl) ?_
  refine r_box (c := (cd20 [0])) (i := 0) (d := (some 1)) (ty := 0) (x := (.tmp 0)) (v := .agg (enc_api_Ref a0).toArray) (t := 36) (cs := enc_api_Ref a0) hS0 (by kernel_rfl) (by kernel_rfl) (by kernel_rfl) (by kernel_rfl) ?_
  intro b1 w2 hS3
  refine sx_run 6 (todo' := [.inRegion (opsOf (cd20 [1, 0, 0])) [1, 2], .code (cd20 [1, 0, 1]), .code (cd20 [1, 1])]) (us := [(2, .string (⟨#[]⟩ : ByteArray)), (3, .pointer (some ⟨b1, 0, none⟩))]) (by kernel_rfl) ?_
  refine r_load (c := (cd20 [1, 0, 0])) (i := 1) (d := (some 4)) (ty := 3) (t := 3) (x := (.tmp 3)) (p := ⟨b1, 0, none⟩) (v := .int .i64 a0.Thread) (by kernel_rfl) (by kernel_rfl) (by kernel_rfl) (loads_at 0 (hS3.blk 0 rfl) (by kernel_rfl) (by kernel_rfl)) ?_
  refine sx_split 1 (todo' := [.inRegion (opsOf (cd20 [1, 0, 0])) [], .code (cd20 [1, 0, 1]), .code (cd20 [1, 1])]) (us := []) (d := 5) (t := (decide (a0.Thread < 0))) (by kernel_rfl) (fun h5 => ?_) (fun h6 => ?_)
  ·skip
   have hp7 := ite_t hp0 h5
   refine sx_run 5 (todo' := [.inRegion (opsOf (cd20 [1, 0, 1, 0, 0])) [1, 2], .code (cd20 [1, 0, 1, 0, 1]), .code (cd20 [1, 1])]) (us := [(6, .pointer (some ⟨b1, 1, none⟩))]) (by kernel_rfl) ?_
   refine r_load (c := (cd20 [1, 0, 1, 0, 0])) (i := 1) (d := (some 7)) (ty := 9) (t := 9) (x := (.tmp 6)) (p := ⟨b1, 1, none⟩) (v := .string a0.Name) (by kernel_rfl) (by kernel_rfl) (by kernel_rfl) (loads_at 1 (hS3.blk 0 rfl) (by kernel_rfl) (by kernel_rfl)) ?_
   refine sx_run 2 (todo' := [.code (cd20 [1, 0, 1, 0, 1]), .code (cd20 [1, 1])]) (us := [(2, .string a0.Name)]) (by kernel_rfl) ?_
   have hS8 := hS3.drop
   refine runs_ret (fn := Tryd.f20) (v := .string a0.Name) Tryd.func20 (by kernel_rfl) ?_
   have hr9 := (Option.some.inj hp7)
   cases hr9
   exact hR _ _ ⟨rfl, hS8⟩
  ·skip
   have hp10 := ite_f hp0 h6
   refine sx_run 4 (todo' := [.code (cd20 [1, 1, 0]), .code (cd20 [1, 1, 1])]) (us := []) (by kernel_rfl) ?_
   refine r_quiet hS3 (c := (cd20 [1, 1, 0])) (id := 3) (by kernel_rfl) (by kernel_rfl) (by kernel_rfl) (is := [0, 1, 2, 3, 4, 5, 6, 7]) (by kernel_rfl) ?_
   refine q_run 1 (is' := [1, 2, 3, 4, 5, 6, 7]) (us := [(8, .pointer (some ⟨b1, 0, none⟩))]) (by kernel_rfl) ?_
   refine q_load (c := (cd20 [1, 1, 0])) (i := 1) (d := (some 9)) (ty := 3) (t := 3) (x := (.tmp 8)) (p := ⟨b1, 0, none⟩) (v := .int .i64 a0.Thread) (by kernel_rfl) (by kernel_rfl) (by kernel_rfl) (fun w hC => (loads_at 0 (hC.blk 0 rfl) (by kernel_rfl) (by kernel_rfl))) ?_
   obtain ⟨t11, hr12, hp13⟩ := bind_some' hp10
   refine q_call1 (c := (cd20 [1, 1, 0])) (i := 2) (d := (some 10)) (v := .string t11) (g := 31) (args := #[.int .i64 a0.Thread]) (by kernel_rfl) (by kernel_rfl) (by kernel_rfl) (by kernel_rfl) (fun w hC => by
    refine (strconv_Itoa.ok a0.Thread hC hE hr12).mono ?_
    rintro e w2 ⟨rfl, h2⟩
    exact ⟨rfl, h2⟩) ?_
   obtain ⟨g14, hp15⟩ := ite_some hp13
   refine q_val (c := (cd20 [1, 1, 0])) (i := 3) (d := (some 11)) (ty := 9) (op := .binOp .add 9 (.tmp 10) (.const (.string (⟨#[58]⟩ : ByteArray))) 9) (v := .string (t11 ++ (⟨#[58]⟩ : ByteArray))) (by kernel_rfl) (by kernel_rfl) (fun w hC o ho _ => x_concat (by kernel_rfl) (by kernel_rfl) g14 ho) ?_
   refine q_run 1 (is' := [5, 6, 7]) (us := [(12, .pointer (some ⟨b1, 1, none⟩))]) (by kernel_rfl) ?_
   refine q_load (c := (cd20 [1, 1, 0])) (i := 5) (d := (some 13)) (ty := 9) (t := 9) (x := (.tmp 12)) (p := ⟨b1, 1, none⟩) (v := .string a0.Name) (by kernel_rfl) (by kernel_rfl) (by kernel_rfl) (fun w hC => (loads_at 1 (hC.blk 0 rfl) (by kernel_rfl) (by kernel_rfl))) ?_
   obtain ⟨g16, hp17⟩ := ite_some hp15
   refine q_val (c := (cd20 [1, 1, 0])) (i := 6) (d := (some 14)) (ty := 9) (op := .binOp .add 9 (.tmp 11) (.tmp 13) 9) (v := .string ((t11 ++ (⟨#[58]⟩ : ByteArray)) ++ a0.Name)) (by kernel_rfl) (by kernel_rfl) (fun w hC o ho _ => x_concat (by kernel_rfl) (by kernel_rfl) g16 ho) ?_
   refine q_run 1 (is' := []) (us := [(2, .string ((t11 ++ (⟨#[58]⟩ : ByteArray)) ++ a0.Name))]) (by kernel_rfl) ?_
   refine Qs.nil ?_
   intro w18 hS19
   have hS20 := hS19.drop
   refine runs_ret (fn := Tryd.f20) (v := .string ((t11 ++ (⟨#[58]⟩ : ByteArray)) ++ a0.Name)) Tryd.func20 (by kernel_rfl) ?_
   have hr21 := (Option.some.inj hp17)
   cases hr21
   exact hR _ _ ⟨rfl, hS20⟩

noncomputable def cd21 (p : List Nat) : Code := sub (bodyOf Tryd.f21) p
def word_Text.f (a0 : Int) : Option ByteArray :=
  (strconv_FormatInt.f a0 10 >>= (fun t1 => some (t1)))
set_option maxHeartbeats 16000000 in
theorem word_Text.ok (a0 : Int) {w0 : World} {Z : Zm} {fs : List XObj} {w : World} (hS0 : St w0 Z (fs) w) (hE : Env Z) {q0 : ByteArray} (hp0 : word_Text.f a0 = some q0) :
    Calls Tryd.prog 21 #[.int .i64 a0] w (fun e w' => e = .returned (.string q0) ∧ St w0 Z (fs) w') := by
  refine calls_abs ?_; intro R hR
  unfold word_Text.f at hp0
  refine calls_of_runs (fn := Tryd.f21) (c := cd21 []) Tryd.func21 (by kernel_rfl) (al := [.int .i64 a0]) rfl (n := 4) rfl ?_
  refine sx_run 7 (todo' := [.inRegion (opsOf (cd21 [1, 0])) [1, 2], .code (cd21 [1, 1])]) (us := [(2, .string (⟨#[]⟩ : ByteArray)), (3, .int .i64 a0)]) (by kernel_rfl) ?_
  obtain ⟨t1, hr2, hp3⟩ := bind_some' hp0
  refine r_call1 (c := (cd21 [1, 0])) (i := 1) (d := (some 4)) (g := 32) (args := #[.int .i64 a0, .int .i64 10]) (by kernel_rfl) (by kernel_rfl) (by kernel_rfl) (by kernel_rfl) (strconv_FormatInt.ok a0 10 hS0 hE hr2) ?_
  rintro _ w4 ⟨rfl, hS5⟩
  refine ⟨.string t1, rfl, ?_⟩
  refine sx_run 2 (todo' := [.code (cd21 [1, 1])]) (us := [(2, .string t1)]) (by kernel_rfl) ?_
  refine runs_ret (fn := Tryd.f21) (v := .string t1) Tryd.func21 (by kernel_rfl) ?_
  have hr6 := (Option.some.inj hp3)
  cases hr6
  exact hR _ _ ⟨rfl, hS5⟩

def cond_writer__node.Spec (rec : ByteArray → (List api_Node) → Int → Option ByteArray) : Prop := ∀ (a0s : ByteArray) (a0p0 : List api_Node) (a1 : Int) (ba0 : Nat) (Aa0 : Option Addr) (ca0 : Nat) (Aa0p0 : Option Addr) (ca0p0 : Nat) {w0 : World} {Z : Zm} {fs : List XObj} {w : World} (_ : St w0 Z (xbld ba0 (.slice Aa0p0 a0p0.length ca0p0) Aa0 ca0 a0s :: fs) w) (_ : SlZ (flat enc_api_Node) 6 Z Aa0p0 ca0p0 a0p0) (_ : Env Z) {q0 : ByteArray}, rec a0s a0p0 a1 = some q0 →
    Calls Tryd.prog 11 #[.pointer (some ⟨ba0, 0, none⟩), .int .i64 a1] w (fun e w' => ∃ (QA0 : Option Addr) (Qc0 : Nat), e = .returned (.tuple #[]) ∧ St w0 Z (xbld ba0 (.slice Aa0p0 a0p0.length ca0p0) QA0 Qc0 q0 :: fs) w')

noncomputable def cd22 (p : List Nat) : Code := sub (bodyOf Tryd.f22) p
def cond_writer__part_1.f (rec_cond_writer__node : ByteArray → (List api_Node) → Int → Option ByteArray) (a0s : ByteArray) (a0p0 : List api_Node) (a1 : Int) (a2 : Int) (a3 : Bool) : Option ByteArray :=
  (if 0 ≤ a2 ∧ a2 < (a0p0.length : Int) then (cond_bracketed.f a1 ((gt a0p0 a2).Op) a3 >>= (fun t7 => (if t7 = true then (bd_write.f a0s (⟨#[40]⟩ : ByteArray) >>= (fun (t22, t23) => (rec_cond_writer__node t23 a0p0 a2 >>= (fun t30 => (bd_write.f t30 (⟨#[41]⟩ : ByteArray) >>= (fun (t37, t38) => some (t38))))))) else (rec_cond_writer__node a0s a0p0 a2 >>= (fun t13 => some (t13)))))) else none)
set_option maxHeartbeats 16000000 in
theorem cond_writer__part_1.ok (rec_cond_writer__node : ByteArray → (List api_Node) → Int → Option ByteArray) (hrec_cond_writer__node : cond_writer__node.Spec rec_cond_writer__node) (a0s : ByteArray) (a0p0 : List api_Node) (a1 : Int) (a2 : Int) (a3 : Bool) (ba0 : Nat) (Aa0 : Option Addr) (ca0 : Nat) (Aa0p0 : Option Addr) (ca0p0 : Nat) {w0 : World} {Z : Zm} {fs : List XObj} {w : World} (hS0 : St w0 Z (xbld ba0 (.slice Aa0p0 a0p0.length ca0p0) Aa0 ca0 a0s :: fs) w) (ha0p0 : SlZ (flat enc_api_Node) 6 Z Aa0p0 ca0p0 a0p0) (hE : Env Z) {q0 : ByteArray} (hp0 : cond_writer__part_1.f rec_cond_writer__node a0s a0p0 a1 a2 a3 = some q0) :
    Calls Tryd.prog 22 #[.pointer (some ⟨ba0, 0, none⟩), .int .i64 a1, .int .i64 a2, .bool a3] w (fun e w' => ∃ (QA0 : Option Addr) (Qc0 : Nat), e = .returned (.tuple #[]) ∧ St w0 Z (xbld ba0 (.slice Aa0p0 a0p0.length ca0p0) QA0 Qc0 q0 :: fs) w') := by
  refine calls_abs ?_; intro R hR
  unfold cond_writer__part_1.f at hp0
  refine calls_of_runs (fn := Tryd.f22) (c := cd22 []) Tryd.func22 (by kernel_rfl) (al := [.pointer (some ⟨ba0, 0, none⟩), .int .i64 a1, .int .i64 a2, .bool a3]) rfl (n := 29) rfl ?_
  refine sx_run 7 (todo' := [.inRegion (opsOf (cd22 [0, 0])) [4, 5, 6, 7, 8, 9, 10], .code (cd22 [0, 1]), .code (cd22 [1])]) (us := [(8, .int .i64 a1), (9, .pointer (some ⟨ba0, 0, none⟩)), (10, .pointer (some ⟨ba0, 0, none⟩)), (11, .pointer (some ⟨ba0, 0, none⟩))]) (by kernel_rfl) ?_
  refine r_load (c := (cd22 [0, 0])) (i := 4) (d := (some 12)) (ty := 23) (t := 23) (x := (.tmp 11)) (p := ⟨ba0, 0, none⟩) (v := .slice Aa0p0 a0p0.length ca0p0) (by kernel_rfl) (by kernel_rfl) (by kernel_rfl) (loads_at 0 (hS0.bldpre 0 rfl) (by kernel_rfl) (by kernel_rfl)) ?_
  refine sx_run 1 (todo' := [.inRegion (opsOf (cd22 [0, 0])) [6, 7, 8, 9, 10], .code (cd22 [0, 1]), .code (cd22 [1])]) (us := [(13, .int .i64 a2)]) (by kernel_rfl) ?_
  obtain ⟨g1, hp2⟩ := ite_some hp0
  obtain ⟨b3, p4, hA5, hc6⟩ := ha0p0.atF g1.1 g1.2
  refine r_indexAddr (c := (cd22 [0, 0])) (i := 6) (d := (some 14)) (ty := 0) (t := 23) (e := 38) (n := a0p0.length) (cp := ca0p0) (sz := 6) (kk := .i64) (x := (.tmp 12)) (y := (.tmp 13)) (b := b3) (o' := p4) (j := a2) (by kernel_rfl) (by kernel_rfl) (slv (by kernel_rfl) hA5) (by kernel_rfl) (by kernel_rfl) (by kernel_rfl) g1.1 g1.2 ?_
  refine sx_run 1 (todo' := [.inRegion (opsOf (cd22 [0, 0])) [8, 9, 10], .code (cd22 [0, 1]), .code (cd22 [1])]) (us := [(15, .pointer (some ⟨b3, p4 + a2.toNat * 6, none⟩))]) (by kernel_rfl) ?_
  refine r_load (c := (cd22 [0, 0])) (i := 8) (d := (some 16)) (ty := 3) (t := 3) (x := (.tmp 15)) (p := ⟨b3, p4 + a2.toNat * 6, none⟩) (v := .int .i64 ((gt a0p0 a2).Op)) (by kernel_rfl) (by kernel_rfl) (by kernel_rfl) (loads_at 0 (hc6.cells hS0) (by kernel_rfl) (by kernel_rfl)) ?_
  refine sx_run 1 (todo' := [.inRegion (opsOf (cd22 [0, 0])) [10], .code (cd22 [0, 1]), .code (cd22 [1])]) (us := [(17, .bool a3)]) (by kernel_rfl) ?_
  obtain ⟨t7, hr8, hp9⟩ := bind_some' hp2
  refine r_call1 (c := (cd22 [0, 0])) (i := 10) (d := (some 18)) (g := 27) (args := #[.int .i64 a1, .int .i64 ((gt a0p0 a2).Op), .bool a3]) (by kernel_rfl) (by kernel_rfl) (by kernel_rfl) (by kernel_rfl) (cond_bracketed.ok a1 ((gt a0p0 a2).Op) a3 hS0 hr8) ?_
  rintro _ w10 ⟨rfl, hS11⟩
  refine ⟨.bool t7, rfl, ?_⟩
  refine sx_run 1 (todo' := [.code (cd22 [0, 1]), .code (cd22 [1])]) (us := []) (by kernel_rfl) ?_
  cases t7
  ·skip
   have hp12 := ite_f hp9 rfl
   refine sx_run 5 (todo' := [.inRegion (opsOf (cd22 [1])) [2]]) (us := [(30, .pointer (some ⟨ba0, 0, none⟩)), (31, .int .i64 a2)]) (by kernel_rfl) ?_
   obtain ⟨t13, hr16, hp17⟩ := bind_some' hp12
   refine r_call1 (c := (cd22 [1])) (i := 2) (d := (some 32)) (g := 11) (args := #[.pointer (some ⟨ba0, 0, none⟩), .int .i64 a2]) (by kernel_rfl) (by kernel_rfl) (by kernel_rfl) (by kernel_rfl) (hrec_cond_writer__node a0s a0p0 a2 ba0 Aa0 ca0 Aa0p0 ca0p0 hS11 ha0p0 hE hr16) ?_
   rintro _ w18 ⟨Q14, Q15, rfl, hS19⟩
   refine ⟨.tuple #[], rfl, ?_⟩
   refine sx_run 1 (todo' := []) (us := []) (by kernel_rfl) ?_
   refine runs_end (fn := Tryd.f22) (v := .tuple #[]) Tryd.func22 (by kernel_rfl) ?_
   have hr20 := (Option.some.inj hp17)
   cases hr20
   exact hR _ _ ⟨Q14, Q15, rfl, hS19⟩
  ·skip
   have hp21 := ite_t hp9 rfl
   refine sx_run 6 (todo' := [.inRegion (opsOf (cd22 [0, 1, 0, 0])) [3], .code (cd22 [0, 1, 0, 1]), .code (cd22 [1])]) (us := [(19, .pointer (some ⟨ba0, 0, none⟩)), (20, .pointer (some ⟨ba0, 0, none⟩)), (21, .pointer (some ⟨ba0, 1, none⟩))]) (by kernel_rfl) ?_
   obtain ⟨⟨t22, t23⟩, hr26, hp27⟩ := bind_some' hp21
   try dsimp only at hp27
   refine r_call1 (c := (cd22 [0, 1, 0, 0])) (i := 3) (d := (some 22)) (g := 19) (args := #[.pointer (some ⟨ba0, 1, none⟩), .string (⟨#[40]⟩ : ByteArray)]) (by kernel_rfl) (by kernel_rfl) (by kernel_rfl) (by kernel_rfl) (bd_write.ok a0s (⟨#[40]⟩ : ByteArray) ba0 (.slice Aa0p0 a0p0.length ca0p0) Aa0 ca0 hS11 hr26) ?_
   rintro _ w28 ⟨Q24, Q25, rfl, hS29⟩
   refine ⟨.tuple #[.int .i64 t22, .nilIface], rfl, ?_⟩
   refine sx_run 5 (todo' := [.inRegion (opsOf (cd22 [0, 1, 0, 1, 0])) [2], .code (cd22 [0, 1, 0, 1, 1]), .code (cd22 [1])]) (us := [(23, .pointer (some ⟨ba0, 0, none⟩)), (24, .int .i64 a2)]) (by kernel_rfl) ?_
   obtain ⟨t30, hr33, hp34⟩ := bind_some' hp27
   refine r_call1 (c := (cd22 [0, 1, 0, 1, 0])) (i := 2) (d := (some 25)) (g := 11) (args := #[.pointer (some ⟨ba0, 0, none⟩), .int .i64 a2]) (by kernel_rfl) (by kernel_rfl) (by kernel_rfl) (by kernel_rfl) (hrec_cond_writer__node t23 a0p0 a2 ba0 Q24 Q25 Aa0p0 ca0p0 hS29 ha0p0 hE hr33) ?_
   rintro _ w35 ⟨Q31, Q32, rfl, hS36⟩
   refine ⟨.tuple #[], rfl, ?_⟩
   refine sx_run 6 (todo' := [.inRegion (opsOf (cd22 [0, 1, 0, 1, 1, 0])) [3], .code (cd22 [0, 1, 0, 1, 1, 1]), .code (cd22 [1])]) (us := [(26, .pointer (some ⟨ba0, 0, none⟩)), (27, .pointer (some ⟨ba0, 0, none⟩)), (28, .pointer (some ⟨ba0, 1, none⟩))]) (by kernel_rfl) ?_
   obtain ⟨⟨t37, t38⟩, hr41, hp42⟩ := bind_some' hp34
   try dsimp only at hp42
   refine r_call1 (c := (cd22 [0, 1, 0, 1, 1, 0])) (i := 3) (d := (some 29)) (g := 19) (args := #[.pointer (some ⟨ba0, 1, none⟩), .string (⟨#[41]⟩ : ByteArray)]) (by kernel_rfl) (by kernel_rfl) (by kernel_rfl) (by kernel_rfl) (bd_write.ok t30 (⟨#[41]⟩ : ByteArray) ba0 (.slice Aa0p0 a0p0.length ca0p0) Q31 Q32 hS36 hr41) ?_
   rintro _ w43 ⟨Q39, Q40, rfl, hS44⟩
   refine ⟨.tuple #[.int .i64 t37, .nilIface], rfl, ?_⟩
   refine sx_run 1 (todo' := [.code (cd22 [0, 1, 0, 1, 1, 1]), .code (cd22 [1])]) (us := []) (by kernel_rfl) ?_
   refine runs_ret (fn := Tryd.f22) (v := .tuple #[]) Tryd.func22 (by kernel_rfl) ?_
   have hr45 := (Option.some.inj hp42)
   cases hr45
   exact hR _ _ ⟨Q39, Q40, rfl, hS44⟩

noncomputable def cd11 (p : List Nat) : Code := sub (bodyOf Tryd.f11) p
def cond_writer__node.body (rec_cond_writer__node : ByteArray → (List api_Node) → Int → Option ByteArray) (a0s : ByteArray) (a0p0 : List api_Node) (a1 : Int) : Option ByteArray :=
  (if 0 ≤ a1 ∧ a1 < (a0p0.length : Int) then (if (((gt a0p0 a1).Op) == 1) = true then (bd_write.f a0s (⟨#[116, 114, 117, 101]⟩ : ByteArray) >>= (fun (t16, t17) => some (t17))) else (if (((gt a0p0 a1).Op) == 2) = true then (cond_refText.f ((gt a0p0 a1).Ref) >>= (fun t32 => (if t32.size + (⟨#[61]⟩ : ByteArray).size ≤ 9223372036854775807 then (word_Text.f ((gt a0p0 a1).Value) >>= (fun t37 => (if (t32 ++ (⟨#[61]⟩ : ByteArray)).size + t37.size ≤ 9223372036854775807 then (bd_write.f a0s ((t32 ++ (⟨#[61]⟩ : ByteArray)) ++ t37) >>= (fun (t42, t43) => some (t43))) else none))) else none))) else (if (((gt a0p0 a1).Op) == 3) = true then (bd_write.f a0s (⟨#[126]⟩ : ByteArray) >>= (fun (t75, t76) => (cond_writer__part_1.f rec_cond_writer__node t76 a0p0 ((gt a0p0 a1).Op) ((gt a0p0 a1).A) false >>= (fun t84 => some (t84))))) else (cond_writer__part_1.f rec_cond_writer__node a0s a0p0 ((gt a0p0 a1).Op) ((gt a0p0 a1).A) false >>= (fun t95 => (((if (((gt a0p0 a1).Op) == 4) = true then (bd_write.f t95 (⟨#[32, 47, 92, 32]⟩ : ByteArray) >>= (fun (t127, t128) => some (t128))) else (bd_write.f t95 (⟨#[32, 92, 47, 32]⟩ : ByteArray) >>= (fun (t136, t137) => some (t137)))) : Option ByteArray) >>= (fun t106 => (cond_writer__part_1.f rec_cond_writer__node t106 a0p0 ((gt a0p0 a1).Op) ((gt a0p0 a1).B) true >>= (fun t114 => some (t114)))))))))) else none)
set_option maxHeartbeats 16000000 in
theorem cond_writer__node.bok (rec_cond_writer__node : ByteArray → (List api_Node) → Int → Option ByteArray) (hrec_cond_writer__node : cond_writer__node.Spec rec_cond_writer__node) : cond_writer__node.Spec (cond_writer__node.body rec_cond_writer__node) := by
  intro a0s a0p0 a1 ba0 Aa0 ca0 Aa0p0 ca0p0 w0 Z fs w hS0 ha0p0 hE q0 hp0
  refine calls_abs ?_; intro R hR
  unfold cond_writer__node.body at hp0
  refine calls_of_runs (fn := Tryd.f11) (c := cd11 []) Tryd.func11 (by kernel_rfl) (al := [.pointer (some ⟨ba0, 0, none⟩), .int .i64 a1]) rfl (n := 67) rfl ?_
  refine sx_run 5 (todo' := [.inRegion (opsOf (cd11 [0])) [3, 4, 5, 6, 7, 8], .code (cd11 [1])]) (us := [(5, .pointer (some ⟨ba0, 0, none⟩)), (6, .pointer (some ⟨ba0, 0, none⟩)), (7, .pointer (some ⟨ba0, 0, none⟩))]) (by kernel_rfl) ?_
  refine r_load (c := (cd11 [0])) (i := 3) (d := (some 8)) (ty := 23) (t := 23) (x := (.tmp 7)) (p := ⟨ba0, 0, none⟩) (v := .slice Aa0p0 a0p0.length ca0p0) (by kernel_rfl) (by kernel_rfl) (by kernel_rfl) (loads_at 0 (hS0.bldpre 0 rfl) (by kernel_rfl) (by kernel_rfl)) ?_
  refine sx_run 1 (todo' := [.inRegion (opsOf (cd11 [0])) [5, 6, 7, 8], .code (cd11 [1])]) (us := [(9, .int .i64 a1)]) (by kernel_rfl) ?_
  obtain ⟨g1, hp2⟩ := ite_some hp0
  obtain ⟨b3, p4, hA5, hc6⟩ := ha0p0.atF g1.1 g1.2
  refine r_indexAddr (c := (cd11 [0])) (i := 5) (d := (some 10)) (ty := 0) (t := 23) (e := 38) (n := a0p0.length) (cp := ca0p0) (sz := 6) (kk := .i64) (x := (.tmp 8)) (y := (.tmp 9)) (b := b3) (o' := p4) (j := a1) (by kernel_rfl) (by kernel_rfl) (slv (by kernel_rfl) hA5) (by kernel_rfl) (by kernel_rfl) (by kernel_rfl) g1.1 g1.2 ?_
  refine r_load (c := (cd11 [0])) (i := 6) (d := (some 11)) (ty := 38) (t := 38) (x := (.tmp 10)) (p := ⟨b3, p4 + a1.toNat * 6, none⟩) (v := .agg (enc_api_Node (gt a0p0 a1)).toArray) (by kernel_rfl) (by kernel_rfl) (by kernel_rfl) (loads_agg (hc6.cells hS0) (by kernel_rfl) (by kernel_rfl)) ?_
  refine r_alloc (c := (cd11 [0])) (i := 7) (d := (some 4)) (ty := 0) (z := .agg (enc_api_Node (⟨0, 0, 0, ⟨0, (⟨#[]⟩ : ByteArray)⟩, 0⟩ : api_Node)).toArray) (t := 38) (cs := enc_api_Node (⟨0, 0, 0, ⟨0, (⟨#[]⟩ : ByteArray)⟩, 0⟩ : api_Node)) hS0 (by kernel_rfl) (by kernel_rfl) (by kernel_rfl) (by kernel_rfl) ?_
  intro b7 w8 hS9
  refine r_store (c := (cd11 [0])) (i := 8) (d := none) (ty := 0) (t := 38) (x := (.tmp 4)) (y := (.tmp 11)) (b := b7) (o := 0) (e := 38) (cs := enc_api_Node (⟨0, 0, 0, ⟨0, (⟨#[]⟩ : ByteArray)⟩, 0⟩ : api_Node)) (v := .agg (enc_api_Node (gt a0p0 a1)).toArray) (vs := enc_api_Node (gt a0p0 a1)) (cs' := enc_api_Node (gt a0p0 a1)) hS9 (by kernel_rfl) (by kernel_rfl) (by kernel_rfl) (by kernel_rfl) (by kernel_rfl) (by kernel_rfl) (one_api_Node _) (Nat.le_of_ble_eq_true (by kernel_rfl)) (by kernel_rfl) ?_
  intro w11 hS12
  refine sx_run 4 (todo' := [.inRegion (opsOf (cd11 [1, 0])) [1], .code (cd11 [1, 1])]) (us := [(12, .pointer (some ⟨b7, 0, none⟩))]) (by kernel_rfl) ?_
  refine r_load (c := (cd11 [1, 0])) (i := 1) (d := (some 13)) (ty := 3) (t := 3) (x := (.tmp 12)) (p := ⟨b7, 0, none⟩) (v := .int .i64 ((gt a0p0 a1).Op)) (by kernel_rfl) (by kernel_rfl) (by kernel_rfl) (loads_at 0 (hS12.blk 0 rfl) (by kernel_rfl) (by kernel_rfl)) ?_
  refine sx_split 5 (todo' := [.inRegion (opsOf (cd11 [1, 1, 0, 0])) [1], .code (cd11 [1, 1, 0, 1]), .inBlock 0]) (us := []) (d := 38) (t := (((gt a0p0 a1).Op) == 1)) (by kernel_rfl) (fun h13 => ?_) (fun h14 => ?_)
  ·skip
   have hp15 := ite_t hp2 h13
   refine sx_run 7 (todo' := [.inRegion (opsOf (cd11 [1, 1, 0, 1, 0])) [3], .inBlock 0]) (us := [(37, .bool true), (39, .pointer (some ⟨ba0, 0, none⟩)), (40, .pointer (some ⟨ba0, 0, none⟩)), (41, .pointer (some ⟨ba0, 1, none⟩))]) (by kernel_rfl) ?_
   obtain ⟨⟨t16, t17⟩, hr20, hp21⟩ := bind_some' hp15
   try dsimp only at hp21
   have hS22 := hS12.pick1
   refine r_call1 (c := (cd11 [1, 1, 0, 1, 0])) (i := 3) (d := (some 42)) (g := 19) (args := #[.pointer (some ⟨ba0, 1, none⟩), .string (⟨#[116, 114, 117, 101]⟩ : ByteArray)]) (by kernel_rfl) (by kernel_rfl) (by kernel_rfl) (by kernel_rfl) (bd_write.ok a0s (⟨#[116, 114, 117, 101]⟩ : ByteArray) ba0 (.slice Aa0p0 a0p0.length ca0p0) Aa0 ca0 hS22 hr20) ?_
   rintro _ w23 ⟨Q18, Q19, rfl, hS24⟩
   refine ⟨.tuple #[.int .i64 t16, .nilIface], rfl, ?_⟩
   refine sx_run 2 (todo' := []) (us := []) (by kernel_rfl) ?_
   have hS25 := hS24.pick1
   have hS26 := hS25.drop
   refine runs_end (fn := Tryd.f11) (v := .tuple #[]) Tryd.func11 (by kernel_rfl) ?_
   have hr27 := (Option.some.inj hp21)
   cases hr27
   exact hR _ _ ⟨Q18, Q19, rfl, hS26⟩
  ·skip
   have hp28 := ite_f hp2 h14
   refine sx_split 6 (todo' := [.inRegion (opsOf (cd11 [1, 1, 0, 1, 1, 0])) [1], .code (cd11 [1, 1, 0, 1, 1, 1]), .inBlock 0]) (us := [(37, .bool false)]) (d := 44) (t := (((gt a0p0 a1).Op) == 2)) (by kernel_rfl) (fun h29 => ?_) (fun h30 => ?_)
   ·skip
    have hp31 := ite_t hp28 h29
    refine sx_run 3 (todo' := [.code (cd11 [1, 1, 0, 1, 1, 1, 0]), .inBlock 0]) (us := [(43, .bool true)]) (by kernel_rfl) ?_
    obtain ⟨t32, hr33, hp34⟩ := bind_some' hp31
    obtain ⟨g35, hp36⟩ := ite_some hp34
    obtain ⟨t37, hr38, hp39⟩ := bind_some' hp36
    obtain ⟨g40, hp41⟩ := ite_some hp39
    obtain ⟨⟨t42, t43⟩, hr44, hp45⟩ := bind_some' hp41
    try dsimp only at hp45
    refine r_drawnP (S := Option (Option Addr × Nat)) (dn := (fun (st : Option (Option Addr × Nat)) k => [st.isSome].getD k true)) (C := (fun st w' => match st with | none => St w0 Z (xblk b7 38 (enc_api_Node (gt a0p0 a1)) :: xbld ba0 (.slice Aa0p0 a0p0.length ca0p0) Aa0 ca0 a0s :: fs) w' | some x46 => St w0 Z (xblk b7 38 (enc_api_Node (gt a0p0 a1)) :: xbld ba0 (.slice Aa0p0 a0p0.length ca0p0) x46.1 x46.2 t43 :: fs) w')) (v := (fun st => match st with | none => [.pointer (some ⟨ba0, 0, none⟩), .pointer (some ⟨ba0, 0, none⟩), .pointer (some ⟨ba0, 1, none⟩), .pointer (some ⟨b7, 3, none⟩), .agg (enc_api_Ref ((gt a0p0 a1).Ref)).toArray, .string t32, .string (t32 ++ (⟨#[61]⟩ : ByteArray)), .pointer (some ⟨b7, 5, none⟩), .int .i64 ((gt a0p0 a1).Value), .string t37, .string ((t32 ++ (⟨#[61]⟩ : ByteArray)) ++ t37), undef] | some x46 => [.pointer (some ⟨ba0, 0, none⟩), .pointer (some ⟨ba0, 0, none⟩), .pointer (some ⟨ba0, 1, none⟩), .pointer (some ⟨b7, 3, none⟩), .agg (enc_api_Ref ((gt a0p0 a1).Ref)).toArray, .string t32, .string (t32 ++ (⟨#[61]⟩ : ByteArray)), .pointer (some ⟨b7, 5, none⟩), .int .i64 ((gt a0p0 a1).Value), .string t37, .string ((t32 ++ (⟨#[61]⟩ : ByteArray)) ++ t37), .tuple #[.int .i64 t42, .nilIface]])) (c := (cd11 [1, 1, 0, 1, 1, 1, 0])) (id := 10) none 0 12 [11] [[], [], [], [], [], [], [], [], [], [], [], []] [[], [], [0], [], [], [], [], [], [], [0], [0], []] [] [true, true, true, true, true, true, true, true, true, true, true, true] (by kernel_rfl) (by kernel_rfl) (by kernel_rfl) (by kernel_rfl) (by kernel_rfl) (by kernel_rfl) (by kernel_rfl) (by kernel_rfl) (by kernel_rfl) (fun k hk => match k, hk with | 0, _ => rfl | k + 1, hk => absurd hk (by simp)) hS12.drew ?_ (fun k hk => match k, hk with | 0, _ => rfl | k + 1, hk => absurd hk (by simp)) ?_ ?_ ?_
    ·intro i hi st w hC hd
     match i, hi with
     | 0, _ => (show _ = _; kernel_rfl)
     | 1, _ => (show _ = _; kernel_rfl)
     | 2, _ => (show _ = _; kernel_rfl)
     | 3, _ => (show _ = _; kernel_rfl)
     | 4, _ => (show _ = _; kernel_rfl)
     | 5, _ => (show _ = _; kernel_rfl)
     | 6, _ => (show _ = _; kernel_rfl)
     | 7, _ => (show _ = _; kernel_rfl)
     | 8, _ => (show _ = _; kernel_rfl)
     | 9, _ => (show _ = _; kernel_rfl)
     | 10, _ => (show _ = _; kernel_rfl)
     | 11, _ => (show _ = _; kernel_rfl)
     | i + 12, hi => exact absurd hi (by omega)
    ·intro i hi he st w hC hd hu
     match i, hi, he with
     | 0, _, _ =>
      rcases st with _ | x46
      ·replace hC : St w0 Z (xblk b7 38 (enc_api_Node (gt a0p0 a1)) :: xbld ba0 (.slice Aa0p0 a0p0.length ca0p0) Aa0 ca0 a0s :: fs) w := hC
       exact ⟨fun _ => does_pure (v := .pointer (some ⟨ba0, 0, none⟩)) (by kernel_rfl) rfl hC, fun h => absurd h (by decide)⟩
      ·replace hC : St w0 Z (xblk b7 38 (enc_api_Node (gt a0p0 a1)) :: xbld ba0 (.slice Aa0p0 a0p0.length ca0p0) x46.1 x46.2 t43 :: fs) w := hC
       exact ⟨fun _ => does_pure (v := .pointer (some ⟨ba0, 0, none⟩)) (by kernel_rfl) rfl hC, fun h => absurd h (by decide)⟩
     | 1, _, _ =>
      rcases st with _ | x46
      ·replace hC : St w0 Z (xblk b7 38 (enc_api_Node (gt a0p0 a1)) :: xbld ba0 (.slice Aa0p0 a0p0.length ca0p0) Aa0 ca0 a0s :: fs) w := hC
       exact ⟨fun _ => does_pure (v := .pointer (some ⟨ba0, 0, none⟩)) (by kernel_rfl) rfl hC, fun h => absurd h (by decide)⟩
      ·replace hC : St w0 Z (xblk b7 38 (enc_api_Node (gt a0p0 a1)) :: xbld ba0 (.slice Aa0p0 a0p0.length ca0p0) x46.1 x46.2 t43 :: fs) w := hC
       exact ⟨fun _ => does_pure (v := .pointer (some ⟨ba0, 0, none⟩)) (by kernel_rfl) rfl hC, fun h => absurd h (by decide)⟩
     | 2, _, _ =>
      rcases st with _ | x46
      ·replace hC : St w0 Z (xblk b7 38 (enc_api_Node (gt a0p0 a1)) :: xbld ba0 (.slice Aa0p0 a0p0.length ca0p0) Aa0 ca0 a0s :: fs) w := hC
       exact ⟨fun _ => does_pure (v := .pointer (some ⟨ba0, 1, none⟩)) (by kernel_rfl) rfl hC, fun h => absurd h (by decide)⟩
      ·exact Bool.noConfusion (hu 0 (by decide))
     | 3, _, _ =>
      rcases st with _ | x46
      ·replace hC : St w0 Z (xblk b7 38 (enc_api_Node (gt a0p0 a1)) :: xbld ba0 (.slice Aa0p0 a0p0.length ca0p0) Aa0 ca0 a0s :: fs) w := hC
       exact ⟨fun _ => does_pure (v := .pointer (some ⟨b7, 3, none⟩)) (by kernel_rfl) rfl hC, fun h => absurd h (by decide)⟩
      ·replace hC : St w0 Z (xblk b7 38 (enc_api_Node (gt a0p0 a1)) :: xbld ba0 (.slice Aa0p0 a0p0.length ca0p0) x46.1 x46.2 t43 :: fs) w := hC
       exact ⟨fun _ => does_pure (v := .pointer (some ⟨b7, 3, none⟩)) (by kernel_rfl) rfl hC, fun h => absurd h (by decide)⟩
     | 4, _, _ =>
      rcases st with _ | x46
      ·replace hC : St w0 Z (xblk b7 38 (enc_api_Node (gt a0p0 a1)) :: xbld ba0 (.slice Aa0p0 a0p0.length ca0p0) Aa0 ca0 a0s :: fs) w := hC
       exact ⟨fun _ => does_run (x_load (t := 36) (x := (.tmp 48)) (p := ⟨b7, 3, none⟩) (v := .agg (enc_api_Ref ((gt a0p0 a1).Ref)).toArray) (by kernel_rfl) (loads_agg (sub_api_Node_Ref (hC.blk 0 rfl)) (by kernel_rfl) (by kernel_rfl)) (by kernel_rfl)) rfl hC, fun h => absurd h (by decide)⟩
      ·replace hC : St w0 Z (xblk b7 38 (enc_api_Node (gt a0p0 a1)) :: xbld ba0 (.slice Aa0p0 a0p0.length ca0p0) x46.1 x46.2 t43 :: fs) w := hC
       exact ⟨fun _ => does_run (x_load (t := 36) (x := (.tmp 48)) (p := ⟨b7, 3, none⟩) (v := .agg (enc_api_Ref ((gt a0p0 a1).Ref)).toArray) (by kernel_rfl) (loads_agg (sub_api_Node_Ref (hC.blk 0 rfl)) (by kernel_rfl) (by kernel_rfl)) (by kernel_rfl)) rfl hC, fun h => absurd h (by decide)⟩
     | 5, _, _ =>
      rcases st with _ | x46
      ·replace hC : St w0 Z (xblk b7 38 (enc_api_Node (gt a0p0 a1)) :: xbld ba0 (.slice Aa0p0 a0p0.length ca0p0) Aa0 ca0 a0s :: fs) w := hC
       exact ⟨fun _ => (by refine does_call (g := 20) (args := #[.agg (enc_api_Ref ((gt a0p0 a1).Ref)).toArray]) (by kernel_rfl) (cond_refText.ok ((gt a0p0 a1).Ref) hC hE hr33) ?_; rintro e w2 ⟨rfl, h2⟩; have hS55 := h2.pick1; have hS56 := hS55.pick1; exact ⟨_, rfl, rfl, hS56⟩), fun h => absurd h (by decide)⟩
      ·replace hC : St w0 Z (xblk b7 38 (enc_api_Node (gt a0p0 a1)) :: xbld ba0 (.slice Aa0p0 a0p0.length ca0p0) x46.1 x46.2 t43 :: fs) w := hC
       exact ⟨fun _ => (by refine does_call (g := 20) (args := #[.agg (enc_api_Ref ((gt a0p0 a1).Ref)).toArray]) (by kernel_rfl) (cond_refText.ok ((gt a0p0 a1).Ref) hC hE hr33) ?_; rintro e w2 ⟨rfl, h2⟩; have hS57 := h2.pick1; have hS58 := hS57.pick1; exact ⟨_, rfl, rfl, hS58⟩), fun h => absurd h (by decide)⟩
     | 6, _, _ =>
      rcases st with _ | x46
      ·replace hC : St w0 Z (xblk b7 38 (enc_api_Node (gt a0p0 a1)) :: xbld ba0 (.slice Aa0p0 a0p0.length ca0p0) Aa0 ca0 a0s :: fs) w := hC
       exact ⟨fun _ => does_run (x_concat (t := 9) (ty := 9) (x := (.tmp 50)) (y := (.const (.string (⟨#[61]⟩ : ByteArray)))) (by kernel_rfl) (by kernel_rfl) g35 (by kernel_rfl)) rfl hC, fun h => absurd h (by decide)⟩
      ·replace hC : St w0 Z (xblk b7 38 (enc_api_Node (gt a0p0 a1)) :: xbld ba0 (.slice Aa0p0 a0p0.length ca0p0) x46.1 x46.2 t43 :: fs) w := hC
       exact ⟨fun _ => does_run (x_concat (t := 9) (ty := 9) (x := (.tmp 50)) (y := (.const (.string (⟨#[61]⟩ : ByteArray)))) (by kernel_rfl) (by kernel_rfl) g35 (by kernel_rfl)) rfl hC, fun h => absurd h (by decide)⟩
     | 7, _, _ =>
      rcases st with _ | x46
      ·replace hC : St w0 Z (xblk b7 38 (enc_api_Node (gt a0p0 a1)) :: xbld ba0 (.slice Aa0p0 a0p0.length ca0p0) Aa0 ca0 a0s :: fs) w := hC
       exact ⟨fun _ => does_pure (v := .pointer (some ⟨b7, 5, none⟩)) (by kernel_rfl) rfl hC, fun h => absurd h (by decide)⟩
      ·replace hC : St w0 Z (xblk b7 38 (enc_api_Node (gt a0p0 a1)) :: xbld ba0 (.slice Aa0p0 a0p0.length ca0p0) x46.1 x46.2 t43 :: fs) w := hC
       exact ⟨fun _ => does_pure (v := .pointer (some ⟨b7, 5, none⟩)) (by kernel_rfl) rfl hC, fun h => absurd h (by decide)⟩
     | 8, _, _ =>
      rcases st with _ | x46
      ·replace hC : St w0 Z (xblk b7 38 (enc_api_Node (gt a0p0 a1)) :: xbld ba0 (.slice Aa0p0 a0p0.length ca0p0) Aa0 ca0 a0s :: fs) w := hC
       exact ⟨fun _ => does_run (x_load (t := 2) (x := (.tmp 52)) (p := ⟨b7, 5, none⟩) (v := .int .i64 ((gt a0p0 a1).Value)) (by kernel_rfl) (loads_at 5 (hC.blk 0 rfl) (by kernel_rfl) (by kernel_rfl)) (by kernel_rfl)) rfl hC, fun h => absurd h (by decide)⟩
      ·replace hC : St w0 Z (xblk b7 38 (enc_api_Node (gt a0p0 a1)) :: xbld ba0 (.slice Aa0p0 a0p0.length ca0p0) x46.1 x46.2 t43 :: fs) w := hC
       exact ⟨fun _ => does_run (x_load (t := 2) (x := (.tmp 52)) (p := ⟨b7, 5, none⟩) (v := .int .i64 ((gt a0p0 a1).Value)) (by kernel_rfl) (loads_at 5 (hC.blk 0 rfl) (by kernel_rfl) (by kernel_rfl)) (by kernel_rfl)) rfl hC, fun h => absurd h (by decide)⟩
     | 9, _, _ =>
      rcases st with _ | x46
      ·replace hC : St w0 Z (xblk b7 38 (enc_api_Node (gt a0p0 a1)) :: xbld ba0 (.slice Aa0p0 a0p0.length ca0p0) Aa0 ca0 a0s :: fs) w := hC
       exact ⟨fun _ => (by refine does_call (g := 21) (args := #[.int .i64 ((gt a0p0 a1).Value)]) (by kernel_rfl) (word_Text.ok ((gt a0p0 a1).Value) hC hE hr38) ?_; rintro e w2 ⟨rfl, h2⟩; have hS59 := h2.pick1; have hS60 := hS59.pick1; exact ⟨_, rfl, rfl, hS60⟩), fun h => absurd h (by decide)⟩
      ·exact Bool.noConfusion (hu 0 (by decide))
     | 10, _, _ =>
      rcases st with _ | x46
      ·replace hC : St w0 Z (xblk b7 38 (enc_api_Node (gt a0p0 a1)) :: xbld ba0 (.slice Aa0p0 a0p0.length ca0p0) Aa0 ca0 a0s :: fs) w := hC
       exact ⟨fun _ => does_run (x_concat (t := 9) (ty := 9) (x := (.tmp 51)) (y := (.tmp 54)) (by kernel_rfl) (by kernel_rfl) g40 (by kernel_rfl)) rfl hC, fun h => absurd h (by decide)⟩
      ·exact Bool.noConfusion (hu 0 (by decide))
     | 11, _, he => exact absurd he (by decide)
     | i + 12, hi, _ => exact absurd hi (by omega)
    ·intro k hk st w hC hr hm
     match k, hk with
     | 0, _ =>
      rcases st with _ | x46
      ·replace hC : St w0 Z (xblk b7 38 (enc_api_Node (gt a0p0 a1)) :: xbld ba0 (.slice Aa0p0 a0p0.length ca0p0) Aa0 ca0 a0s :: fs) w := hC
       have hS61 := hC.pick1
       refine does_call (g := 19) (args := #[.pointer (some ⟨ba0, 1, none⟩), .string ((t32 ++ (⟨#[61]⟩ : ByteArray)) ++ t37)]) (by kernel_rfl) (bd_write.ok a0s ((t32 ++ (⟨#[61]⟩ : ByteArray)) ++ t37) ba0 (.slice Aa0p0 a0p0.length ca0p0) Aa0 ca0 hS61 hr44) ?_
       rintro e w2 ⟨m62, m63, rfl, h2⟩
       refine ⟨_, rfl, ?_⟩
       have hS64 := h2.pick1
       have h2 := hS64
       have h2 := h2.pick1
       have h2 := h2.pick1
       refine ⟨some (m62, m63), rfl, ?_, ?_, .inr rfl, h2⟩
       ·intro m hne; match m, hne with
        | 0, hne => exact absurd rfl hne
        | m + 1, _ => exact rfl
       ·intro j hj; match j, hj with
        | 0, hj => exact rfl
        | 1, hj => exact rfl
        | 2, hj => exact rfl
        | 3, hj => exact rfl
        | 4, hj => exact rfl
        | 5, hj => exact rfl
        | 6, hj => exact rfl
        | 7, hj => exact rfl
        | 8, hj => exact rfl
        | 9, hj => exact rfl
        | 10, hj => exact rfl
        | 11, hj => exact absurd (by decide) hj
        | j + 12, _ => exact rfl
      ·exact Bool.noConfusion hr
     | k + 1, hk => exact absurd hk (by simp)
    intro st68 w65 hS66 hr67
    rcases st68 with _ | x46
    ·exact Bool.noConfusion (hr67 0 (Nat.lt_of_sub_eq_succ rfl))
    replace hS66 : St w0 Z (xblk b7 38 (enc_api_Node (gt a0p0 a1)) :: xbld ba0 (.slice Aa0p0 a0p0.length ca0p0) x46.1 x46.2 t43 :: fs) w65 := hS66
    refine sx_run 1 (todo' := []) (us := []) (by kernel_rfl) ?_
    have hS69 := hS66.drop
    refine runs_end (fn := Tryd.f11) (v := .tuple #[]) Tryd.func11 (by kernel_rfl) ?_
    have hr70 := (Option.some.inj hp45)
    cases hr70
    exact hR _ _ ⟨x46.1, x46.2, rfl, hS69⟩
   ·skip
    have hp71 := ite_f hp28 h30
    refine sx_split 6 (todo' := [.inRegion (opsOf (cd11 [1, 1, 0, 1, 1, 1, 1, 0])) [1], .code (cd11 [1, 1, 0, 1, 1, 1, 1, 1]), .inBlock 0]) (us := [(43, .bool false)]) (d := 58) (t := (((gt a0p0 a1).Op) == 3)) (by kernel_rfl) (fun h72 => ?_) (fun h73 => ?_)
    ·skip
     have hp74 := ite_t hp71 h72
     refine sx_run 8 (todo' := [.inRegion (opsOf (cd11 [1, 1, 0, 1, 1, 1, 1, 1, 0, 0])) [3], .code (cd11 [1, 1, 0, 1, 1, 1, 1, 1, 0, 1]), .inBlock 0]) (us := [(57, .bool true), (59, .pointer (some ⟨ba0, 0, none⟩)), (60, .pointer (some ⟨ba0, 0, none⟩)), (61, .pointer (some ⟨ba0, 1, none⟩))]) (by kernel_rfl) ?_
     obtain ⟨⟨t75, t76⟩, hr79, hp80⟩ := bind_some' hp74
     try dsimp only at hp80
     have hS81 := hS12.pick1
     refine r_call1 (c := (cd11 [1, 1, 0, 1, 1, 1, 1, 1, 0, 0])) (i := 3) (d := (some 62)) (g := 19) (args := #[.pointer (some ⟨ba0, 1, none⟩), .string (⟨#[126]⟩ : ByteArray)]) (by kernel_rfl) (by kernel_rfl) (by kernel_rfl) (by kernel_rfl) (bd_write.ok a0s (⟨#[126]⟩ : ByteArray) ba0 (.slice Aa0p0 a0p0.length ca0p0) Aa0 ca0 hS81 hr79) ?_
     rintro _ w82 ⟨Q77, Q78, rfl, hS83⟩
     refine ⟨.tuple #[.int .i64 t75, .nilIface], rfl, ?_⟩
     refine sx_run 4 (todo' := [.inRegion (opsOf (cd11 [1, 1, 0, 1, 1, 1, 1, 1, 0, 1])) [2, 3, 4, 5], .inBlock 0]) (us := [(63, .pointer (some ⟨ba0, 0, none⟩)), (64, .pointer (some ⟨b7, 0, none⟩))]) (by kernel_rfl) ?_
     refine r_load (c := (cd11 [1, 1, 0, 1, 1, 1, 1, 1, 0, 1])) (i := 2) (d := (some 65)) (ty := 3) (t := 3) (x := (.tmp 64)) (p := ⟨b7, 0, none⟩) (v := .int .i64 ((gt a0p0 a1).Op)) (by kernel_rfl) (by kernel_rfl) (by kernel_rfl) (loads_at 0 (hS83.blk 1 rfl) (by kernel_rfl) (by kernel_rfl)) ?_
     refine sx_run 1 (todo' := [.inRegion (opsOf (cd11 [1, 1, 0, 1, 1, 1, 1, 1, 0, 1])) [4, 5], .inBlock 0]) (us := [(66, .pointer (some ⟨b7, 1, none⟩))]) (by kernel_rfl) ?_
     refine r_load (c := (cd11 [1, 1, 0, 1, 1, 1, 1, 1, 0, 1])) (i := 4) (d := (some 67)) (ty := 3) (t := 3) (x := (.tmp 66)) (p := ⟨b7, 1, none⟩) (v := .int .i64 ((gt a0p0 a1).A)) (by kernel_rfl) (by kernel_rfl) (by kernel_rfl) (loads_at 1 (hS83.blk 1 rfl) (by kernel_rfl) (by kernel_rfl)) ?_
     obtain ⟨t84, hr87, hp88⟩ := bind_some' hp80
     refine r_call1 (c := (cd11 [1, 1, 0, 1, 1, 1, 1, 1, 0, 1])) (i := 5) (d := (some 68)) (g := 22) (args := #[.pointer (some ⟨ba0, 0, none⟩), .int .i64 ((gt a0p0 a1).Op), .int .i64 ((gt a0p0 a1).A), .bool false]) (by kernel_rfl) (by kernel_rfl) (by kernel_rfl) (by kernel_rfl) (cond_writer__part_1.ok rec_cond_writer__node hrec_cond_writer__node t76 a0p0 ((gt a0p0 a1).Op) ((gt a0p0 a1).A) false ba0 Q77 Q78 Aa0p0 ca0p0 hS83 ha0p0 hE hr87) ?_
     rintro _ w89 ⟨Q85, Q86, rfl, hS90⟩
     refine ⟨.tuple #[], rfl, ?_⟩
     refine sx_run 2 (todo' := []) (us := []) (by kernel_rfl) ?_
     have hS91 := hS90.pick1
     have hS92 := hS91.drop
     refine runs_end (fn := Tryd.f11) (v := .tuple #[]) Tryd.func11 (by kernel_rfl) ?_
     have hr93 := (Option.some.inj hp88)
     cases hr93
     exact hR _ _ ⟨Q85, Q86, rfl, hS92⟩
    ·skip
     have hp94 := ite_f hp71 h73
     refine sx_run 7 (todo' := [.inRegion (opsOf (cd11 [1, 1, 0, 1, 1, 1, 1, 1, 1, 0])) [2, 3, 4, 5], .code (cd11 [1, 1, 0, 1, 1, 1, 1, 1, 1, 1]), .inBlock 0]) (us := [(57, .bool false), (14, .pointer (some ⟨ba0, 0, none⟩)), (15, .pointer (some ⟨b7, 0, none⟩))]) (by kernel_rfl) ?_
     refine r_load (c := (cd11 [1, 1, 0, 1, 1, 1, 1, 1, 1, 0])) (i := 2) (d := (some 16)) (ty := 3) (t := 3) (x := (.tmp 15)) (p := ⟨b7, 0, none⟩) (v := .int .i64 ((gt a0p0 a1).Op)) (by kernel_rfl) (by kernel_rfl) (by kernel_rfl) (loads_at 0 (hS12.blk 0 rfl) (by kernel_rfl) (by kernel_rfl)) ?_
     refine sx_run 1 (todo' := [.inRegion (opsOf (cd11 [1, 1, 0, 1, 1, 1, 1, 1, 1, 0])) [4, 5], .code (cd11 [1, 1, 0, 1, 1, 1, 1, 1, 1, 1]), .inBlock 0]) (us := [(17, .pointer (some ⟨b7, 1, none⟩))]) (by kernel_rfl) ?_
     refine r_load (c := (cd11 [1, 1, 0, 1, 1, 1, 1, 1, 1, 0])) (i := 4) (d := (some 18)) (ty := 3) (t := 3) (x := (.tmp 17)) (p := ⟨b7, 1, none⟩) (v := .int .i64 ((gt a0p0 a1).A)) (by kernel_rfl) (by kernel_rfl) (by kernel_rfl) (loads_at 1 (hS12.blk 0 rfl) (by kernel_rfl) (by kernel_rfl)) ?_
     obtain ⟨t95, hr98, hp99⟩ := bind_some' hp94
     have hS100 := hS12.pick1
     refine r_call1 (c := (cd11 [1, 1, 0, 1, 1, 1, 1, 1, 1, 0])) (i := 5) (d := (some 19)) (g := 22) (args := #[.pointer (some ⟨ba0, 0, none⟩), .int .i64 ((gt a0p0 a1).Op), .int .i64 ((gt a0p0 a1).A), .bool false]) (by kernel_rfl) (by kernel_rfl) (by kernel_rfl) (by kernel_rfl) (cond_writer__part_1.ok rec_cond_writer__node hrec_cond_writer__node a0s a0p0 ((gt a0p0 a1).Op) ((gt a0p0 a1).A) false ba0 Aa0 ca0 Aa0p0 ca0p0 hS100 ha0p0 hE hr98) ?_
     rintro _ w101 ⟨Q96, Q97, rfl, hS102⟩
     refine ⟨.tuple #[], rfl, ?_⟩
     refine sx_run 5 (todo' := [.inRegion (opsOf (cd11 [1, 1, 0, 1, 1, 1, 1, 1, 1, 1, 0, 0])) [1, 2], .code (cd11 [1, 1, 0, 1, 1, 1, 1, 1, 1, 1, 0, 1]), .code (cd11 [1, 1, 0, 1, 1, 1, 1, 1, 1, 1, 1]), .inBlock 0]) (us := [(20, .pointer (some ⟨b7, 0, none⟩))]) (by kernel_rfl) ?_
     refine r_load (c := (cd11 [1, 1, 0, 1, 1, 1, 1, 1, 1, 1, 0, 0])) (i := 1) (d := (some 21)) (ty := 3) (t := 3) (x := (.tmp 20)) (p := ⟨b7, 0, none⟩) (v := .int .i64 ((gt a0p0 a1).Op)) (by kernel_rfl) (by kernel_rfl) (by kernel_rfl) (loads_at 0 (hS102.blk 1 rfl) (by kernel_rfl) (by kernel_rfl)) ?_
     obtain ⟨v103, hv104, hp105⟩ := bind_some' hp99
     have J111 : ∀ (t106 : ByteArray) (he113 : t106 = v103) (l112 : List Value) (A107 : Option Addr) (c108 : Nat) (w109 : World) (hS110 : St w0 Z (xbld ba0 (.slice Aa0p0 a0p0.length ca0p0) A107 c108 t106 :: xblk b7 38 (enc_api_Node (gt a0p0 a1)) :: fs) w109), Runs Tryd.prog 11 [.code (cd11 [1, 1, 0, 1, 1, 1, 1, 1, 1, 1, 1]), .inBlock 0] (fill [some (.pointer (some ⟨ba0, 0, none⟩)), none, none, none, some (.pointer (some ⟨b7, 0, none⟩)), none, none, none, none, none, none, none, none, none, none, none, none, none, none, none, none, none, none, none, none, none, none, none, none, none, none, none, none, none, none, none, none, none, none, none, none, none, none, none, none, none, none, none, none, none, none, none, none, none, none, none, none, none, none, none, none, none, none, none, none, none, none, none, none] l112) w109 R := by
      intro t106 he113 l112 A107 c108 w109 hS110
      subst he113
      try dsimp only at hp105
      refine sx_run 3 (todo' := [.inRegion (opsOf (cd11 [1, 1, 0, 1, 1, 1, 1, 1, 1, 1, 1])) [2, 3, 4, 5], .inBlock 0]) (us := [(31, .pointer (some ⟨ba0, 0, none⟩)), (32, .pointer (some ⟨b7, 0, none⟩))]) (by kernel_rfl) ?_
      refine r_load (c := (cd11 [1, 1, 0, 1, 1, 1, 1, 1, 1, 1, 1])) (i := 2) (d := (some 33)) (ty := 3) (t := 3) (x := (.tmp 32)) (p := ⟨b7, 0, none⟩) (v := .int .i64 ((gt a0p0 a1).Op)) (by kernel_rfl) (by kernel_rfl) (by kernel_rfl) (loads_at 0 (hS110.blk 1 rfl) (by kernel_rfl) (by kernel_rfl)) ?_
      refine sx_run 1 (todo' := [.inRegion (opsOf (cd11 [1, 1, 0, 1, 1, 1, 1, 1, 1, 1, 1])) [4, 5], .inBlock 0]) (us := [(34, .pointer (some ⟨b7, 2, none⟩))]) (by kernel_rfl) ?_
      refine r_load (c := (cd11 [1, 1, 0, 1, 1, 1, 1, 1, 1, 1, 1])) (i := 4) (d := (some 35)) (ty := 3) (t := 3) (x := (.tmp 34)) (p := ⟨b7, 2, none⟩) (v := .int .i64 ((gt a0p0 a1).B)) (by kernel_rfl) (by kernel_rfl) (by kernel_rfl) (loads_at 2 (hS110.blk 1 rfl) (by kernel_rfl) (by kernel_rfl)) ?_
      obtain ⟨t114, hr117, hp118⟩ := bind_some' hp105
      refine r_call1 (c := (cd11 [1, 1, 0, 1, 1, 1, 1, 1, 1, 1, 1])) (i := 5) (d := (some 36)) (g := 22) (args := #[.pointer (some ⟨ba0, 0, none⟩), .int .i64 ((gt a0p0 a1).Op), .int .i64 ((gt a0p0 a1).B), .bool true]) (by kernel_rfl) (by kernel_rfl) (by kernel_rfl) (by kernel_rfl) (cond_writer__part_1.ok rec_cond_writer__node hrec_cond_writer__node t106 a0p0 ((gt a0p0 a1).Op) ((gt a0p0 a1).B) true ba0 A107 c108 Aa0p0 ca0p0 hS110 ha0p0 hE hr117) ?_
      rintro _ w119 ⟨Q115, Q116, rfl, hS120⟩
      refine ⟨.tuple #[], rfl, ?_⟩
      refine sx_run 2 (todo' := []) (us := []) (by kernel_rfl) ?_
      have hS121 := hS120.pick1
      have hS122 := hS121.drop
      refine runs_end (fn := Tryd.f11) (v := .tuple #[]) Tryd.func11 (by kernel_rfl) ?_
      have hr123 := (Option.some.inj hp118)
      cases hr123
      exact hR _ _ ⟨Q115, Q116, rfl, hS122⟩
     refine sx_split 1 (todo' := [.inRegion (opsOf (cd11 [1, 1, 0, 1, 1, 1, 1, 1, 1, 1, 0, 0])) [], .code (cd11 [1, 1, 0, 1, 1, 1, 1, 1, 1, 1, 0, 1]), .code (cd11 [1, 1, 0, 1, 1, 1, 1, 1, 1, 1, 1]), .inBlock 0]) (us := []) (d := 22) (t := (((gt a0p0 a1).Op) == 4)) (by kernel_rfl) (fun h124 => ?_) (fun h125 => ?_)
     ·skip
      have hp126 := ite_t hv104 h124
      refine sx_run 6 (todo' := [.inRegion (opsOf (cd11 [1, 1, 0, 1, 1, 1, 1, 1, 1, 1, 0, 1, 0])) [3], .code (cd11 [1, 1, 0, 1, 1, 1, 1, 1, 1, 1, 1]), .inBlock 0]) (us := [(23, .pointer (some ⟨ba0, 0, none⟩)), (24, .pointer (some ⟨ba0, 0, none⟩)), (25, .pointer (some ⟨ba0, 1, none⟩))]) (by kernel_rfl) ?_
      obtain ⟨⟨t127, t128⟩, hr131, hp132⟩ := bind_some' hp126
      try dsimp only at hp132
      refine r_call1 (c := (cd11 [1, 1, 0, 1, 1, 1, 1, 1, 1, 1, 0, 1, 0])) (i := 3) (d := (some 26)) (g := 19) (args := #[.pointer (some ⟨ba0, 1, none⟩), .string (⟨#[32, 47, 92, 32]⟩ : ByteArray)]) (by kernel_rfl) (by kernel_rfl) (by kernel_rfl) (by kernel_rfl) (bd_write.ok t95 (⟨#[32, 47, 92, 32]⟩ : ByteArray) ba0 (.slice Aa0p0 a0p0.length ca0p0) Q96 Q97 hS102 hr131) ?_
      rintro _ w133 ⟨Q129, Q130, rfl, hS134⟩
      refine ⟨.tuple #[.int .i64 t127, .nilIface], rfl, ?_⟩
      refine sx_run 1 (todo' := [.code (cd11 [1, 1, 0, 1, 1, 1, 1, 1, 1, 1, 1]), .inBlock 0]) (us := []) (by kernel_rfl) ?_
      refine Runs.fill (m := [some (.pointer (some ⟨ba0, 0, none⟩)), none, none, none, some (.pointer (some ⟨b7, 0, none⟩)), none, none, none, none, none, none, none, none, none, none, none, none, none, none, none, none, none, none, none, none, none, none, none, none, none, none, none, none, none, none, none, none, none, none, none, none, none, none, none, none, none, none, none, none, none, none, none, none, none, none, none, none, none, none, none, none, none, none, none, none, none, none, none, none]) (by kernel_rfl) ?_
      exact J111 t128 (Option.some.inj hp132) _ Q129 Q130 _ hS134
     ·skip
      have hp135 := ite_f hv104 h125
      refine sx_run 6 (todo' := [.inRegion (opsOf (cd11 [1, 1, 0, 1, 1, 1, 1, 1, 1, 1, 0, 1, 1])) [3], .code (cd11 [1, 1, 0, 1, 1, 1, 1, 1, 1, 1, 1]), .inBlock 0]) (us := [(27, .pointer (some ⟨ba0, 0, none⟩)), (28, .pointer (some ⟨ba0, 0, none⟩)), (29, .pointer (some ⟨ba0, 1, none⟩))]) (by kernel_rfl) ?_
      obtain ⟨⟨t136, t137⟩, hr140, hp141⟩ := bind_some' hp135
      try dsimp only at hp141
      refine r_call1 (c := (cd11 [1, 1, 0, 1, 1, 1, 1, 1, 1, 1, 0, 1, 1])) (i := 3) (d := (some 30)) (g := 19) (args := #[.pointer (some ⟨ba0, 1, none⟩), .string (⟨#[32, 92, 47, 32]⟩ : ByteArray)]) (by kernel_rfl) (by kernel_rfl) (by kernel_rfl) (by kernel_rfl) (bd_write.ok t95 (⟨#[32, 92, 47, 32]⟩ : ByteArray) ba0 (.slice Aa0p0 a0p0.length ca0p0) Q96 Q97 hS102 hr140) ?_
      rintro _ w142 ⟨Q138, Q139, rfl, hS143⟩
      refine ⟨.tuple #[.int .i64 t136, .nilIface], rfl, ?_⟩
      refine sx_run 1 (todo' := [.code (cd11 [1, 1, 0, 1, 1, 1, 1, 1, 1, 1, 1]), .inBlock 0]) (us := []) (by kernel_rfl) ?_
      refine Runs.fill (m := [some (.pointer (some ⟨ba0, 0, none⟩)), none, none, none, some (.pointer (some ⟨b7, 0, none⟩)), none, none, none, none, none, none, none, none, none, none, none, none, none, none, none, none, none, none, none, none, none, none, none, none, none, none, none, none, none, none, none, none, none, none, none, none, none, none, none, none, none, none, none, none, none, none, none, none, none, none, none, none, none, none, none, none, none, none, none, none, none, none, none, none]) (by kernel_rfl) ?_
      exact J111 t137 (Option.some.inj hp141) _ Q138 Q139 _ hS143
def cond_writer__node.f : Nat → ByteArray → (List api_Node) → Int → Option ByteArray
  | 0 => fun _ _ _ => none
  | n + 1 => cond_writer__node.body (cond_writer__node.f n)
theorem cond_writer__node.all : ∀ n, cond_writer__node.Spec (cond_writer__node.f n)
  | 0 => by
    intro a0s a0p0 a1 ba0 Aa0 ca0 Aa0p0 ca0p0 w0 Z fs w hS0 ha0p0 hE q0 hp0
    cases hp0
  | n + 1 => cond_writer__node.bok (cond_writer__node.f n) (cond_writer__node.all n)
theorem cond_writer__node.ok : cond_writer__node.Spec (cond_writer__node.f fuelN) := cond_writer__node.all fuelN

noncomputable def cd5 (p : List Nat) : Code := sub (bodyOf Tryd.f5) p
def cond_Text.f (a0 : List api_Node) : Option (ByteArray × Int) :=
  (cond_Check.f a0 >>= (fun t1 => (if (t1 != 0) = true then some (((⟨#[]⟩ : ByteArray), t1)) else (cond_writer__node.f fuelN (⟨#[]⟩ : ByteArray) a0 (IntKind.i64.wrap ((a0.length : Int) - 1)) >>= (fun t16 => (bd_string.f t16 >>= (fun t23 => some ((t23, 0)))))))))
set_option maxHeartbeats 16000000 in
theorem cond_Text.ok (a0 : List api_Node) (Aa0 : Option Addr) (ca0 : Nat) {w0 : World} {Z : Zm} {fs : List XObj} {w : World} (hS0 : St w0 Z (fs) w) (ha0 : SlZ (flat enc_api_Node) 6 Z Aa0 ca0 a0) (hE : Env Z) {q0 : ByteArray} {q1 : Int} (hp0 : cond_Text.f a0 = some (q0, q1)) :
    Calls Tryd.prog 5 #[.slice Aa0 a0.length ca0] w (fun e w' => e = .returned (.tuple #[.string q0, .int .i64 q1]) ∧ St w0 Z (fs) w') := by
  refine calls_abs ?_; intro R hR
  unfold cond_Text.f at hp0
  refine calls_of_runs (fn := Tryd.f5) (c := cd5 []) Tryd.func5 (by kernel_rfl) (al := [.slice Aa0 a0.length ca0]) rfl (n := 22) rfl ?_
  refine sx_run 9 (todo' := [.inRegion (opsOf (cd5 [1, 0, 0])) [1, 2], .code (cd5 [1, 0, 1]), .code (cd5 [1, 1])]) (us := [(2, .string (⟨#[]⟩ : ByteArray)), (3, .int .i64 0), (6, .slice Aa0 a0.length ca0)]) (by kernel_rfl) ?_
  obtain ⟨t1, hr2, hp3⟩ := bind_some' hp0
  refine r_call1 (c := (cd5 [1, 0, 0])) (i := 1) (d := (some 7)) (g := 8) (args := #[.slice Aa0 a0.length ca0]) (by kernel_rfl) (by kernel_rfl) (by kernel_rfl) (by kernel_rfl) (cond_Check.ok a0 Aa0 ca0 hS0 ha0 hr2) ?_
  rintro _ w4 ⟨rfl, hS5⟩
  refine ⟨.int .i64 t1, rfl, ?_⟩
  refine sx_split 6 (todo' := [.inRegion (opsOf (cd5 [1, 0, 1, 0])) [], .code (cd5 [1, 0, 1, 1]), .code (cd5 [1, 1])]) (us := [(4, .int .i64 t1), (8, .int .i64 t1)]) (d := 9) (t := (t1 != 0)) (by kernel_rfl) (fun h6 => ?_) (fun h7 => ?_)
  ·skip
   have hp8 := ite_t hp3 h6
   refine sx_run 8 (todo' := [.code (cd5 [1, 0, 1, 1, 0, 1]), .code (cd5 [1, 1])]) (us := [(10, .int .i64 t1), (2, .string (⟨#[]⟩ : ByteArray)), (3, .int .i64 t1)]) (by kernel_rfl) ?_
   refine runs_ret (fn := Tryd.f5) (v := .tuple #[.string (⟨#[]⟩ : ByteArray), .int .i64 t1]) Tryd.func5 (by kernel_rfl) ?_
   have hr9 := (Option.some.inj hp8)
   cases hr9
   exact hR _ _ ⟨rfl, hS5⟩
  ·skip
   have hp10 := ite_f hp3 h7
   refine sx_run 7 (todo' := [.inRegion (opsOf (cd5 [1, 1, 0])) [2, 3], .code (cd5 [1, 1, 1])]) (us := [(11, .slice Aa0 a0.length ca0), (12, .agg #[.slice Aa0 a0.length ca0, .pointer none, .slice none 0 0])]) (by kernel_rfl) ?_
   refine r_box (c := (cd5 [1, 1, 0])) (i := 2) (d := (some 13)) (ty := 39) (x := (.tmp 12)) (v := .agg #[.slice Aa0 a0.length ca0, .pointer none, .slice none 0 0]) (t := 45) (cs := [.slice Aa0 a0.length ca0, .pointer none, .slice none 0 0]) hS5 (by kernel_rfl) (by kernel_rfl) (by kernel_rfl) (by kernel_rfl) ?_
   intro b11 w12 hS13
   refine sx_run 8 (todo' := [.inRegion (opsOf (cd5 [1, 1, 1, 0])) [4], .code (cd5 [1, 1, 1, 1])]) (us := [(5, .pointer (some ⟨b11, 0, none⟩)), (14, .pointer (some ⟨b11, 0, none⟩)), (15, .slice Aa0 a0.length ca0), (16, .int .i64 (a0.length : Int)), (17, .int .i64 (IntKind.i64.wrap ((a0.length : Int) - 1)))]) (by kernel_rfl) ?_
   have hS15 := hS13.newB
   obtain ⟨t16, hr19, hp20⟩ := bind_some' hp10
   refine r_call1 (c := (cd5 [1, 1, 1, 0])) (i := 4) (d := (some 18)) (g := 11) (args := #[.pointer (some ⟨b11, 0, none⟩), .int .i64 (IntKind.i64.wrap ((a0.length : Int) - 1))]) (by kernel_rfl) (by kernel_rfl) (by kernel_rfl) (by kernel_rfl) (cond_writer__node.ok (⟨#[]⟩ : ByteArray) a0 (IntKind.i64.wrap ((a0.length : Int) - 1)) b11 none 0 Aa0 ca0 hS15 ha0 hE hr19) ?_
   rintro _ w21 ⟨Q17, Q18, rfl, hS22⟩
   refine ⟨.tuple #[], rfl, ?_⟩
   refine sx_run 6 (todo' := [.inRegion (opsOf (cd5 [1, 1, 1, 1, 0])) [3, 4, 5], .code (cd5 [1, 1, 1, 1, 1])]) (us := [(19, .pointer (some ⟨b11, 0, none⟩)), (20, .pointer (some ⟨b11, 0, none⟩)), (21, .pointer (some ⟨b11, 1, none⟩))]) (by kernel_rfl) ?_
   obtain ⟨t23, hr24, hp25⟩ := bind_some' hp20
   refine r_call1 (c := (cd5 [1, 1, 1, 1, 0])) (i := 3) (d := (some 22)) (g := 12) (args := #[.pointer (some ⟨b11, 1, none⟩)]) (by kernel_rfl) (by kernel_rfl) (by kernel_rfl) (by kernel_rfl) (bd_string.ok t16 b11 (.slice Aa0 a0.length ca0) Q17 Q18 hS22 hr24) ?_
   rintro _ w26 ⟨rfl, hS27⟩
   refine ⟨.string t23, rfl, ?_⟩
   refine sx_run 3 (todo' := [.code (cd5 [1, 1, 1, 1, 1])]) (us := [(2, .string t23), (3, .int .i64 0)]) (by kernel_rfl) ?_
   refine runs_ret (fn := Tryd.f5) (v := .tuple #[.string t23, .int .i64 0]) Tryd.func5 (by kernel_rfl) ?_
   have hr28 := (Option.some.inj hp25)
   cases hr28
   exact hR _ _ ⟨rfl, hS27⟩

noncomputable def cd40 (p : List Nat) : Code := sub (bodyOf Tryd.f40) p
def weirref05_letter.f (a0 : Int) : Option Bool :=
  (if (decide (a0 ≥ 97)) = true then (if (decide (a0 ≤ 122)) = true then some (true) else (if (decide (a0 ≥ 65)) = true then (if (decide (a0 ≤ 90)) = true then some (true) else (if (a0 == 95) = true then some (true) else some (false))) else (if (a0 == 95) = true then some (true) else some (false)))) else (if (decide (a0 ≥ 65)) = true then (if (decide (a0 ≤ 90)) = true then some (true) else (if (a0 == 95) = true then some (true) else some (false))) else (if (a0 == 95) = true then some (true) else some (false))))
set_option maxHeartbeats 16000000 in
theorem weirref05_letter.ok (a0 : Int) {w0 : World} {Z : Zm} {fs : List XObj} {w : World} (hS0 : St w0 Z (fs) w) {q0 : Bool} (hp0 : weirref05_letter.f a0 = some q0) :
    Calls Tryd.prog 40 #[.int .u8 a0] w (fun e w' => e = .returned (.bool q0) ∧ St w0 Z (fs) w') := by
  refine calls_abs ?_; intro R hR
  unfold weirref05_letter.f at hp0
  refine calls_of_runs (fn := Tryd.f40) (c := cd40 []) Tryd.func40 (by kernel_rfl) (al := [.int .u8 a0]) rfl (n := 20) rfl ?_
  refine sx_split 8 (todo' := [.inRegion (opsOf (cd40 [1, 0])) [2, 3, 4, 5, 6, 7, 8, 9, 10, 11, 12, 13, 14, 15, 16, 17, 18], .code (cd40 [1, 1])]) (us := [(2, .bool false), (3, .int .u8 a0)]) (d := 4) (t := (decide (a0 ≥ 97))) (by kernel_rfl) (fun h1 => ?_) (fun h2 => ?_)
  ·skip
   have hp3 := ite_t hp0 h1
   refine sx_split 3 (todo' := [.inRegion (opsOf (cd40 [1, 0])) [5, 6, 7, 8, 9, 10, 11, 12, 13, 14, 15, 16, 17, 18], .code (cd40 [1, 1])]) (us := [(5, .bool true), (6, .int .u8 a0)]) (d := 7) (t := (decide (a0 ≤ 122))) (by kernel_rfl) (fun h4 => ?_) (fun h5 => ?_)
   ·skip
    have hp6 := ite_t hp3 h4
    refine sx_run 15 (todo' := [.code (cd40 [1, 1])]) (us := [(8, .bool true), (9, .bool true), (10, undef), (11, undef), (12, undef), (13, undef), (14, undef), (15, undef), (16, .bool true), (17, .bool true), (18, undef), (19, undef), (20, .bool true), (2, .bool true)]) (by kernel_rfl) ?_
    refine runs_ret (fn := Tryd.f40) (v := .bool true) Tryd.func40 (by kernel_rfl) ?_
    have hr7 := (Option.some.inj hp6)
    cases hr7
    exact hR _ _ ⟨rfl, hS0⟩
   ·skip
    have hp8 := ite_f hp3 h5
    refine sx_split 4 (todo' := [.inRegion (opsOf (cd40 [1, 0])) [9, 10, 11, 12, 13, 14, 15, 16, 17, 18], .code (cd40 [1, 1])]) (us := [(8, .bool false), (9, .bool false), (10, .int .u8 a0)]) (d := 11) (t := (decide (a0 ≥ 65))) (by kernel_rfl) (fun h9 => ?_) (fun h10 => ?_)
    ·skip
     have hp11 := ite_t hp8 h9
     refine sx_split 3 (todo' := [.inRegion (opsOf (cd40 [1, 0])) [12, 13, 14, 15, 16, 17, 18], .code (cd40 [1, 1])]) (us := [(12, .bool true), (13, .int .u8 a0)]) (d := 14) (t := (decide (a0 ≤ 90))) (by kernel_rfl) (fun h12 => ?_) (fun h13 => ?_)
     ·skip
      have hp14 := ite_t hp11 h12
      refine sx_run 8 (todo' := [.code (cd40 [1, 1])]) (us := [(15, .bool true), (16, .bool true), (17, .bool true), (18, undef), (19, undef), (20, .bool true), (2, .bool true)]) (by kernel_rfl) ?_
      refine runs_ret (fn := Tryd.f40) (v := .bool true) Tryd.func40 (by kernel_rfl) ?_
      have hr15 := (Option.some.inj hp14)
      cases hr15
      exact hR _ _ ⟨rfl, hS0⟩
     ·skip
      have hp16 := ite_f hp11 h13
      refine sx_split 5 (todo' := [.inRegion (opsOf (cd40 [1, 0])) [17, 18], .code (cd40 [1, 1])]) (us := [(15, .bool false), (16, .bool false), (17, .bool false), (18, .int .u8 a0)]) (d := 19) (t := (a0 == 95)) (by kernel_rfl) (fun h17 => ?_) (fun h18 => ?_)
      ·skip
       have hp19 := ite_t hp16 h17
       refine sx_run 3 (todo' := [.code (cd40 [1, 1])]) (us := [(20, .bool true), (2, .bool true)]) (by kernel_rfl) ?_
       refine runs_ret (fn := Tryd.f40) (v := .bool true) Tryd.func40 (by kernel_rfl) ?_
       have hr20 := (Option.some.inj hp19)
       cases hr20
       exact hR _ _ ⟨rfl, hS0⟩
      ·skip
       have hp21 := ite_f hp16 h18
       refine sx_run 3 (todo' := [.code (cd40 [1, 1])]) (us := [(20, .bool false), (2, .bool false)]) (by kernel_rfl) ?_
       refine runs_ret (fn := Tryd.f40) (v := .bool false) Tryd.func40 (by kernel_rfl) ?_
       have hr22 := (Option.some.inj hp21)
       cases hr22
       exact hR _ _ ⟨rfl, hS0⟩
    ·skip
     have hp23 := ite_f hp8 h10
     refine sx_split 8 (todo' := [.inRegion (opsOf (cd40 [1, 0])) [17, 18], .code (cd40 [1, 1])]) (us := [(12, .bool false), (13, undef), (14, undef), (15, .bool false), (16, .bool false), (17, .bool false), (18, .int .u8 a0)]) (d := 19) (t := (a0 == 95)) (by kernel_rfl) (fun h24 => ?_) (fun h25 => ?_)
     ·skip
      have hp26 := ite_t hp23 h24
      refine sx_run 3 (todo' := [.code (cd40 [1, 1])]) (us := [(20, .bool true), (2, .bool true)]) (by kernel_rfl) ?_
      refine runs_ret (fn := Tryd.f40) (v := .bool true) Tryd.func40 (by kernel_rfl) ?_
      have hr27 := (Option.some.inj hp26)
      cases hr27
      exact hR _ _ ⟨rfl, hS0⟩
     ·skip
      have hp28 := ite_f hp23 h25
      refine sx_run 3 (todo' := [.code (cd40 [1, 1])]) (us := [(20, .bool false), (2, .bool false)]) (by kernel_rfl) ?_
      refine runs_ret (fn := Tryd.f40) (v := .bool false) Tryd.func40 (by kernel_rfl) ?_
      have hr29 := (Option.some.inj hp28)
      cases hr29
      exact hR _ _ ⟨rfl, hS0⟩
  ·skip
   have hp30 := ite_f hp0 h2
   refine sx_split 7 (todo' := [.inRegion (opsOf (cd40 [1, 0])) [9, 10, 11, 12, 13, 14, 15, 16, 17, 18], .code (cd40 [1, 1])]) (us := [(5, .bool false), (6, undef), (7, undef), (8, .bool false), (9, .bool false), (10, .int .u8 a0)]) (d := 11) (t := (decide (a0 ≥ 65))) (by kernel_rfl) (fun h31 => ?_) (fun h32 => ?_)
   ·skip
    have hp33 := ite_t hp30 h31
    refine sx_split 3 (todo' := [.inRegion (opsOf (cd40 [1, 0])) [12, 13, 14, 15, 16, 17, 18], .code (cd40 [1, 1])]) (us := [(12, .bool true), (13, .int .u8 a0)]) (d := 14) (t := (decide (a0 ≤ 90))) (by kernel_rfl) (fun h34 => ?_) (fun h35 => ?_)
    ·skip
     have hp36 := ite_t hp33 h34
     refine sx_run 8 (todo' := [.code (cd40 [1, 1])]) (us := [(15, .bool true), (16, .bool true), (17, .bool true), (18, undef), (19, undef), (20, .bool true), (2, .bool true)]) (by kernel_rfl) ?_
     refine runs_ret (fn := Tryd.f40) (v := .bool true) Tryd.func40 (by kernel_rfl) ?_
     have hr37 := (Option.some.inj hp36)
     cases hr37
     exact hR _ _ ⟨rfl, hS0⟩
    ·skip
     have hp38 := ite_f hp33 h35
     refine sx_split 5 (todo' := [.inRegion (opsOf (cd40 [1, 0])) [17, 18], .code (cd40 [1, 1])]) (us := [(15, .bool false), (16, .bool false), (17, .bool false), (18, .int .u8 a0)]) (d := 19) (t := (a0 == 95)) (by kernel_rfl) (fun h39 => ?_) (fun h40 => ?_)
     ·skip
      have hp41 := ite_t hp38 h39
      refine sx_run 3 (todo' := [.code (cd40 [1, 1])]) (us := [(20, .bool true), (2, .bool true)]) (by kernel_rfl) ?_
      refine runs_ret (fn := Tryd.f40) (v := .bool true) Tryd.func40 (by kernel_rfl) ?_
      have hr42 := (Option.some.inj hp41)
      cases hr42
      exact hR _ _ ⟨rfl, hS0⟩
     ·skip
      have hp43 := ite_f hp38 h40
      refine sx_run 3 (todo' := [.code (cd40 [1, 1])]) (us := [(20, .bool false), (2, .bool false)]) (by kernel_rfl) ?_
      refine runs_ret (fn := Tryd.f40) (v := .bool false) Tryd.func40 (by kernel_rfl) ?_
      have hr44 := (Option.some.inj hp43)
      cases hr44
      exact hR _ _ ⟨rfl, hS0⟩
   ·skip
    have hp45 := ite_f hp30 h32
    refine sx_split 8 (todo' := [.inRegion (opsOf (cd40 [1, 0])) [17, 18], .code (cd40 [1, 1])]) (us := [(12, .bool false), (13, undef), (14, undef), (15, .bool false), (16, .bool false), (17, .bool false), (18, .int .u8 a0)]) (d := 19) (t := (a0 == 95)) (by kernel_rfl) (fun h46 => ?_) (fun h47 => ?_)
    ·skip
     have hp48 := ite_t hp45 h46
     refine sx_run 3 (todo' := [.code (cd40 [1, 1])]) (us := [(20, .bool true), (2, .bool true)]) (by kernel_rfl) ?_
     refine runs_ret (fn := Tryd.f40) (v := .bool true) Tryd.func40 (by kernel_rfl) ?_
     have hr49 := (Option.some.inj hp48)
     cases hr49
     exact hR _ _ ⟨rfl, hS0⟩
    ·skip
     have hp50 := ite_f hp45 h47
     refine sx_run 3 (todo' := [.code (cd40 [1, 1])]) (us := [(20, .bool false), (2, .bool false)]) (by kernel_rfl) ?_
     refine runs_ret (fn := Tryd.f40) (v := .bool false) Tryd.func40 (by kernel_rfl) ?_
     have hr51 := (Option.some.inj hp50)
     cases hr51
     exact hR _ _ ⟨rfl, hS0⟩

noncomputable def cd41 (p : List Nat) : Code := sub (bodyOf Tryd.f41) p
def weirref05_digit.f (a0 : Int) : Option Bool :=
  (if (decide (a0 ≥ 48)) = true then (if (decide (a0 ≤ 57)) = true then some (true) else some (false)) else some (false))
set_option maxHeartbeats 16000000 in
theorem weirref05_digit.ok (a0 : Int) {w0 : World} {Z : Zm} {fs : List XObj} {w : World} (hS0 : St w0 Z (fs) w) {q0 : Bool} (hp0 : weirref05_digit.f a0 = some q0) :
    Calls Tryd.prog 41 #[.int .u8 a0] w (fun e w' => e = .returned (.bool q0) ∧ St w0 Z (fs) w') := by
  refine calls_abs ?_; intro R hR
  unfold weirref05_digit.f at hp0
  refine calls_of_runs (fn := Tryd.f41) (c := cd41 []) Tryd.func41 (by kernel_rfl) (al := [.int .u8 a0]) rfl (n := 8) rfl ?_
  refine sx_split 8 (todo' := [.inRegion (opsOf (cd41 [1, 0])) [2, 3, 4, 5, 6], .code (cd41 [1, 1])]) (us := [(2, .bool false), (3, .int .u8 a0)]) (d := 4) (t := (decide (a0 ≥ 48))) (by kernel_rfl) (fun h1 => ?_) (fun h2 => ?_)
  ·skip
   have hp3 := ite_t hp0 h1
   refine sx_split 3 (todo' := [.inRegion (opsOf (cd41 [1, 0])) [5, 6], .code (cd41 [1, 1])]) (us := [(5, .bool true), (6, .int .u8 a0)]) (d := 7) (t := (decide (a0 ≤ 57))) (by kernel_rfl) (fun h4 => ?_) (fun h5 => ?_)
   ·skip
    have hp6 := ite_t hp3 h4
    refine sx_run 3 (todo' := [.code (cd41 [1, 1])]) (us := [(8, .bool true), (2, .bool true)]) (by kernel_rfl) ?_
    refine runs_ret (fn := Tryd.f41) (v := .bool true) Tryd.func41 (by kernel_rfl) ?_
    have hr7 := (Option.some.inj hp6)
    cases hr7
    exact hR _ _ ⟨rfl, hS0⟩
   ·skip
    have hp8 := ite_f hp3 h5
    refine sx_run 3 (todo' := [.code (cd41 [1, 1])]) (us := [(8, .bool false), (2, .bool false)]) (by kernel_rfl) ?_
    refine runs_ret (fn := Tryd.f41) (v := .bool false) Tryd.func41 (by kernel_rfl) ?_
    have hr9 := (Option.some.inj hp8)
    cases hr9
    exact hR _ _ ⟨rfl, hS0⟩
  ·skip
   have hp10 := ite_f hp0 h2
   refine sx_run 6 (todo' := [.code (cd41 [1, 1])]) (us := [(5, .bool false), (6, undef), (7, undef), (8, .bool false), (2, .bool false)]) (by kernel_rfl) ?_
   refine runs_ret (fn := Tryd.f41) (v := .bool false) Tryd.func41 (by kernel_rfl) ?_
   have hr11 := (Option.some.inj hp10)
   cases hr11
   exact hR _ _ ⟨rfl, hS0⟩

end
end Go.Proofs.YtmaldbnnighojaaDoor.K
