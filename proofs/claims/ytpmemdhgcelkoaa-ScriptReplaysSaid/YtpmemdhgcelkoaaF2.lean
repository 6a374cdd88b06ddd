/- The walk, part 2: each Go function as a plain Lean function, and that its call answers as that function says. No condition. -/
import Derived.Test.YtpmemdhgcelkoaaE
import Derived.Test.YtpmemdhgcelkoaaNM
import Derived.Test.YtpmemdhgcelkoaaF1
set_option linter.unusedVariables false
set_option linter.unusedSimpArgs false
set_option maxRecDepth 100000
namespace Go.Proofs.Ytpmemdhgcelkoaa.K
open Go Go.RowKit
noncomputable section
noncomputable def cd13 (p : List Nat) : Code := sub (bodyOf Try.f13) p
def weirref15_Outcome.f (a0_0 : ByteArray) (a0_1 : Bool) (a0_1c0vc0v : weirlaw15_Graph) (a0_2 : Bool) (a0_3 : Bool) (a1 : List api_Pick) : Option (api_Final × Bool) :=
  (weirref15_Replay.f a0_0 a0_1 (⟨a0_1c0vc0v.To, a0_1c0vc0v.Ends, a0_1c0vc0v.Odd, a0_1c0vc0v.Holes⟩ : weirlaw15_Graph) a0_2 a0_3 a1 >>= (fun (t9, t10) => (if 0 ≤ (IntKind.i64.wrap ((t9.length : Int) - 1)) ∧ (IntKind.i64.wrap ((t9.length : Int) - 1)) < (t9.length : Int) then (weirref15_end.f a0_0 a0_1 (⟨a0_1c0vc0v.To, a0_1c0vc0v.Ends, a0_1c0vc0v.Odd, a0_1c0vc0v.Holes⟩ : weirlaw15_Graph) a0_2 a0_3 (gt t9 (IntKind.i64.wrap ((t9.length : Int) - 1))) >>= (fun (t30, t31) => some ((t30, t31)))) else none)))
set_option maxHeartbeats 16000000 in
theorem weirref15_Outcome.ok (a0_0 : ByteArray) (a0_1 : Bool) (a0_1c0vc0v : weirlaw15_Graph) (a0_2 : Bool) (a0_3 : Bool) (a1 : List api_Pick) (ba0_1c0 : Nat) (ba0_1c0vc0 : Nat) (Aa0_1c0vc0v_0 : Option Addr) (ca0_1c0vc0v_0 : Nat) (Aa1 : Option Addr) (ca1 : Nat) {w0 : World} {Z : Zm} {fs : List XObj} {w : World} (hS0 : St w0 Z (xblk ba0_1c0 53 ([.func (.func 20) #[] #[.pointer (some ⟨ba0_1c0vc0, 0, none⟩)]]) :: xblk ba0_1c0vc0 25 ([.slice Aa0_1c0vc0v_0 a0_1c0vc0v.To.length ca0_1c0vc0v_0, .int .u64 a0_1c0vc0v.Ends, .bool a0_1c0vc0v.Odd, .int .i64 a0_1c0vc0v.Holes]) :: fs) w) (ha0_1c0vc0v_0 : SlZ (repL (flat (encI .i64)) 1) 1 Z Aa0_1c0vc0v_0 ca0_1c0vc0v_0 a0_1c0vc0v.To) (ha1 : SlZ (flat enc_api_Pick) 3 Z Aa1 ca1 a1) {q0 : api_Final} {q1 : Bool} (hp0 : weirref15_Outcome.f a0_0 a0_1 a0_1c0vc0v a0_2 a0_3 a1 = some (q0, q1)) :
    Calls Try.prog 13 #[.agg #[.string a0_0, cond a0_1 (.func (.func 21) #[] #[.pointer (some ⟨ba0_1c0, 0, none⟩), .pointer (some ⟨ba0_1c0vc0, 0, none⟩)]) .nilFunc, cond a0_2 (.func (.func 22) #[] #[.pointer (some ⟨ba0_1c0, 0, none⟩), .pointer (some ⟨ba0_1c0vc0, 0, none⟩)]) .nilFunc, cond a0_3 (.func (.func 23) #[] #[.pointer (some ⟨ba0_1c0, 0, none⟩), .pointer (some ⟨ba0_1c0vc0, 0, none⟩)]) .nilFunc], .slice Aa1 a1.length ca1] w (fun e w' => e = .returned (.tuple #[.agg (enc_api_Final q0).toArray, .bool q1]) ∧ St w0 Z (xblk ba0_1c0 53 ([.func (.func 20) #[] #[.pointer (some ⟨ba0_1c0vc0, 0, none⟩)]]) :: xblk ba0_1c0vc0 25 ([.slice Aa0_1c0vc0v_0 a0_1c0vc0v.To.length ca0_1c0vc0v_0, .int .u64 a0_1c0vc0v.Ends, .bool a0_1c0vc0v.Odd, .int .i64 a0_1c0vc0v.Holes]) :: fs) w') := by
  refine calls_abs ?_; intro R hR
  unfold weirref15_Outcome.f at hp0
  refine calls_of_runs (fn := Try.f13) (c := cd13 []) Try.func13 (by kernel_rfl) (al := [.agg #[.string a0_0, cond a0_1 (.func (.func 21) #[] #[.pointer (some ⟨ba0_1c0, 0, none⟩), .pointer (some ⟨ba0_1c0vc0, 0, none⟩)]) .nilFunc, cond a0_2 (.func (.func 22) #[] #[.pointer (some ⟨ba0_1c0, 0, none⟩), .pointer (some ⟨ba0_1c0vc0, 0, none⟩)]) .nilFunc, cond a0_3 (.func (.func 23) #[] #[.pointer (some ⟨ba0_1c0, 0, none⟩), .pointer (some ⟨ba0_1c0vc0, 0, none⟩)]) .nilFunc], .slice Aa1 a1.length ca1]) rfl (n := 22) rfl ?_
  refine sx_run 2 (todo' := [.inRegion (opsOf (cd13 [0])) [0, 1, 2], .code (cd13 [1])]) (us := []) (by kernel_rfl) ?_
  refine r_box (c := (cd13 [0])) (i := 0) (d := (some 2)) (ty := 0) (x := (.tmp 0)) (v := .agg #[.string a0_0, cond a0_1 (.func (.func 21) #[] #[.pointer (some ⟨ba0_1c0, 0, none⟩), .pointer (some ⟨ba0_1c0vc0, 0, none⟩)]) .nilFunc, cond a0_2 (.func (.func 22) #[] #[.pointer (some ⟨ba0_1c0, 0, none⟩), .pointer (some ⟨ba0_1c0vc0, 0, none⟩)]) .nilFunc, cond a0_3 (.func (.func 23) #[] #[.pointer (some ⟨ba0_1c0, 0, none⟩), .pointer (some ⟨ba0_1c0vc0, 0, none⟩)]) .nilFunc]) (t := 31) (cs := [.string a0_0, cond a0_1 (.func (.func 21) #[] #[.pointer (some ⟨ba0_1c0, 0, none⟩), .pointer (some ⟨ba0_1c0vc0, 0, none⟩)]) .nilFunc, cond a0_2 (.func (.func 22) #[] #[.pointer (some ⟨ba0_1c0, 0, none⟩), .pointer (some ⟨ba0_1c0vc0, 0, none⟩)]) .nilFunc, cond a0_3 (.func (.func 23) #[] #[.pointer (some ⟨ba0_1c0, 0, none⟩), .pointer (some ⟨ba0_1c0vc0, 0, none⟩)]) .nilFunc]) hS0 (by kernel_rfl) (by kernel_rfl) (by kernel_rfl) (by kernel_rfl) ?_
  intro b1 w2 hS3
  refine r_alloc (c := (cd13 [0])) (i := 1) (d := (some 4)) (ty := 0) (z := .agg (enc_api_Final (⟨0, (Vector.replicate 48 0)⟩ : api_Final)).toArray) (t := 46) (cs := enc_api_Final (⟨0, (Vector.replicate 48 0)⟩ : api_Final)) hS3 (by kernel_rfl) (by kernel_rfl) (by kernel_rfl) (by kernel_rfl) ?_
  intro b5 w6 hS7
  refine sx_run 4 (todo' := [.inRegion (opsOf (cd13 [1, 0])) [0, 1, 2, 3, 4, 5, 6, 7], .code (cd13 [1, 1])]) (us := [(5, .bool false)]) (by kernel_rfl) ?_
  refine r_load (c := (cd13 [1, 0])) (i := 0) (d := (some 9)) (ty := 31) (t := 31) (x := (.tmp 2)) (p := ⟨b1, 0, none⟩) (v := .agg #[.string a0_0, cond a0_1 (.func (.func 21) #[] #[.pointer (some ⟨ba0_1c0, 0, none⟩), .pointer (some ⟨ba0_1c0vc0, 0, none⟩)]) .nilFunc, cond a0_2 (.func (.func 22) #[] #[.pointer (some ⟨ba0_1c0, 0, none⟩), .pointer (some ⟨ba0_1c0vc0, 0, none⟩)]) .nilFunc, cond a0_3 (.func (.func 23) #[] #[.pointer (some ⟨ba0_1c0, 0, none⟩), .pointer (some ⟨ba0_1c0vc0, 0, none⟩)]) .nilFunc]) (by kernel_rfl) (by kernel_rfl) (by kernel_rfl) (loads_agg (hS7.blk 1 rfl) (by kernel_rfl) (by kernel_rfl)) ?_
  refine sx_run 1 (todo' := [.inRegion (opsOf (cd13 [1, 0])) [2, 3, 4, 5, 6, 7], .code (cd13 [1, 1])]) (us := [(10, .slice Aa1 a1.length ca1)]) (by kernel_rfl) ?_
  obtain ⟨⟨t9, t10⟩, hr15, hp16⟩ := bind_some' hp0
  try dsimp only at hp16
  have hS20 := hS7.pick3
  have hS21 := hS20.pick3
  refine r_call1 (c := (cd13 [1, 0])) (i := 2) (d := (some 11)) (g := 11) (args := #[.agg #[.string a0_0, cond a0_1 (.func (.func 21) #[] #[.pointer (some ⟨ba0_1c0, 0, none⟩), .pointer (some ⟨ba0_1c0vc0, 0, none⟩)]) .nilFunc, cond a0_2 (.func (.func 22) #[] #[.pointer (some ⟨ba0_1c0, 0, none⟩), .pointer (some ⟨ba0_1c0vc0, 0, none⟩)]) .nilFunc, cond a0_3 (.func (.func 23) #[] #[.pointer (some ⟨ba0_1c0, 0, none⟩), .pointer (some ⟨ba0_1c0vc0, 0, none⟩)]) .nilFunc], .slice Aa1 a1.length ca1]) (by kernel_rfl) (by kernel_rfl) (by kernel_rfl) (by kernel_rfl) (weirref15_Replay.ok a0_0 a0_1 (⟨a0_1c0vc0v.To, a0_1c0vc0v.Ends, a0_1c0vc0v.Odd, a0_1c0vc0v.Holes⟩ : weirlaw15_Graph) a0_2 a0_3 a1 ba0_1c0 ba0_1c0vc0 Aa0_1c0vc0v_0 ca0_1c0vc0v_0 Aa1 ca1 hS21 ha0_1c0vc0v_0 ha1 hr15) ?_
  rintro _ w22 ⟨Q11, Q12, Q13, Q14, rfl, hS23⟩
  refine ⟨.tuple #[.slice Q11 t9.length Q12, .slice Q13 t10.length Q14], rfl, ?_⟩
  refine sx_run 7 (todo' := [.code (cd13 [1, 1, 0]), .code (cd13 [1, 1, 1])]) (us := [(8, .tuple #[.slice Q11 t9.length Q12, .slice Q13 t10.length Q14]), (12, .slice Q11 t9.length Q12), (13, .slice Q13 t10.length Q14), (6, .slice Q11 t9.length Q12), (7, .slice Q13 t10.length Q14)]) (by kernel_rfl) ?_
  refine r_drawn3 (C := St w0 Z (xrow Q11 Q12 9 1 (t9.flatMap encS) :: xrow Q13 Q14 4 1 (t10.flatMap encB) :: xblk ba0_1c0 53 ([.func (.func 20) #[] #[.pointer (some ⟨ba0_1c0vc0, 0, none⟩)]]) :: xblk ba0_1c0vc0 25 ([.slice Aa0_1c0vc0v_0 a0_1c0vc0v.To.length ca0_1c0vc0v_0, .int .u64 a0_1c0vc0v.Ends, .bool a0_1c0vc0v.Odd, .int .i64 a0_1c0vc0v.Holes]) :: xblk b5 46 (enc_api_Final (⟨0, (Vector.replicate 48 0)⟩ : api_Final)) :: xblk b1 31 ([.string a0_0, cond a0_1 (.func (.func 21) #[] #[.pointer (some ⟨ba0_1c0, 0, none⟩), .pointer (some ⟨ba0_1c0vc0, 0, none⟩)]) .nilFunc, cond a0_2 (.func (.func 22) #[] #[.pointer (some ⟨ba0_1c0, 0, none⟩), .pointer (some ⟨ba0_1c0vc0, 0, none⟩)]) .nilFunc, cond a0_3 (.func (.func 23) #[] #[.pointer (some ⟨ba0_1c0, 0, none⟩), .pointer (some ⟨ba0_1c0vc0, 0, none⟩)]) .nilFunc]) :: fs)) (c := (cd13 [1, 1, 0])) (id := 2) (by kernel_rfl) (by kernel_rfl) 10 (Nat.le_of_ble_eq_true (by kernel_rfl)) (by kernel_rfl) (by kernel_rfl) (by kernel_rfl) (is := [0, 1, 2, 3, 4, 5, 6, 7, 8, 9]) (rest := [10, 11]) (by kernel_rfl) (by kernel_rfl) hS23.drew ?_
  refine q_load (c := (hd (cd13 [1, 1, 0]) 10)) (i := 0) (d := (some 14)) (ty := 31) (t := 31) (x := (.tmp 2)) (p := ⟨b1, 0, none⟩) (v := .agg #[.string a0_0, cond a0_1 (.func (.func 21) #[] #[.pointer (some ⟨ba0_1c0, 0, none⟩), .pointer (some ⟨ba0_1c0vc0, 0, none⟩)]) .nilFunc, cond a0_2 (.func (.func 22) #[] #[.pointer (some ⟨ba0_1c0, 0, none⟩), .pointer (some ⟨ba0_1c0vc0, 0, none⟩)]) .nilFunc, cond a0_3 (.func (.func 23) #[] #[.pointer (some ⟨ba0_1c0, 0, none⟩), .pointer (some ⟨ba0_1c0vc0, 0, none⟩)]) .nilFunc]) (by kernel_rfl) (by kernel_rfl) (by kernel_rfl) (fun w hC => (loads_agg (hC.blk 5 rfl) (by kernel_rfl) (by kernel_rfl))) ?_
  refine q_run 4 (is' := [5, 6, 7, 8, 9]) (us := [(15, .slice Q11 t9.length Q12), (16, .slice Q11 t9.length Q12), (17, .int .i64 (t9.length : Int)), (18, .int .i64 (IntKind.i64.wrap ((t9.length : Int) - 1)))]) (by kernel_rfl) ?_
  obtain ⟨g24, hp25⟩ := ite_some hp16
  obtain ⟨b26, p27, hA28, -⟩ := (hS23.row 0 rfl).at_ len_encS (by omega) g24.1 g24.2
  refine q_indexAddr (c := (hd (cd13 [1, 1, 0]) 10)) (i := 5) (d := (some 19)) (ty := 0) (t := 40) (e := 9) (n := t9.length) (cp := Q12) (sz := 1) (kk := .i64) (x := (.tmp 15)) (y := (.tmp 18)) (b := b26) (o' := p27) (j := (IntKind.i64.wrap ((t9.length : Int) - 1))) (by kernel_rfl) (by kernel_rfl) (slv (by kernel_rfl) hA28) (by kernel_rfl) (by kernel_rfl) (by kernel_rfl) g24.1 g24.2 ?_
  refine q_load (c := (hd (cd13 [1, 1, 0]) 10)) (i := 6) (d := (some 20)) (ty := 9) (t := 9) (x := (.tmp 19)) (p := ⟨b26, p27 + (IntKind.i64.wrap ((t9.length : Int) - 1)).toNat * 1, none⟩) (v := .string (gt t9 (IntKind.i64.wrap ((t9.length : Int) - 1)))) (by kernel_rfl) (by kernel_rfl) (by kernel_rfl) (fun w hC => (loads_at 0 ((hC.row 0 rfl).at2 hA28 len_encS (by omega) g24.1 g24.2) (by kernel_rfl) (by kernel_rfl))) ?_
  obtain ⟨⟨t30, t31⟩, hr32, hp33⟩ := bind_some' hp25
  try dsimp only at hp33
  refine q_call1 (c := (hd (cd13 [1, 1, 0]) 10)) (i := 7) (d := (some 21)) (v := .tuple #[.agg (enc_api_Final t30).toArray, .bool t31]) (g := 25) (args := #[.agg #[.string a0_0, cond a0_1 (.func (.func 21) #[] #[.pointer (some ⟨ba0_1c0, 0, none⟩), .pointer (some ⟨ba0_1c0vc0, 0, none⟩)]) .nilFunc, cond a0_2 (.func (.func 22) #[] #[.pointer (some ⟨ba0_1c0, 0, none⟩), .pointer (some ⟨ba0_1c0vc0, 0, none⟩)]) .nilFunc, cond a0_3 (.func (.func 23) #[] #[.pointer (some ⟨ba0_1c0, 0, none⟩), .pointer (some ⟨ba0_1c0vc0, 0, none⟩)]) .nilFunc], .string (gt t9 (IntKind.i64.wrap ((t9.length : Int) - 1)))]) (by kernel_rfl) (by kernel_rfl) (by kernel_rfl) (by kernel_rfl) (fun w hC => by
   have hS35 := hC.pick3
   have hS36 := hS35.pick3
   refine (weirref15_end.ok a0_0 a0_1 (⟨a0_1c0vc0v.To, a0_1c0vc0v.Ends, a0_1c0vc0v.Odd, a0_1c0vc0v.Holes⟩ : weirlaw15_Graph) a0_2 a0_3 (gt t9 (IntKind.i64.wrap ((t9.length : Int) - 1))) ba0_1c0 ba0_1c0vc0 Aa0_1c0vc0v_0 ca0_1c0vc0v_0 hS36 ha0_1c0vc0v_0 hr32).mono ?_
   rintro e w2 ⟨rfl, h2⟩
   have hS37 := h2.pick5
   have hS38 := hS37.pick5
   have hS39 := hS38.pick3
   have hS40 := hS39.pick3
   have hS41 := hS40.pick5
   have hS42 := hS41.pick5
   exact ⟨rfl, hS42⟩) ?_
  refine q_run 2 (is' := []) (us := [(22, .agg (enc_api_Final t30).toArray), (23, .bool t31)]) (by kernel_rfl) ?_
  refine Qs.nil ?_
  intro w43 hS44
  have hS45 := hS44.pick4
  refine r_store (c := (cd13 [1, 1, 0])) (i := 10) (d := none) (ty := 0) (t := 46) (x := (.tmp 4)) (y := (.tmp 22)) (b := b5) (o := 0) (e := 46) (cs := enc_api_Final (⟨0, (Vector.replicate 48 0)⟩ : api_Final)) (v := .agg (enc_api_Final t30).toArray) (vs := enc_api_Final t30) (cs' := enc_api_Final t30) hS45 (by kernel_rfl) (by kernel_rfl) (by kernel_rfl) (by kernel_rfl) (by kernel_rfl) (lenK (len_api_Final _) (by kernel_rfl)) (one_api_Final _) (by simp only [len_api_Final, List.length_cons, List.length_nil, List.length_append]; omega) (over_all ((len_api_Final _).trans (len_api_Final _).symm)) ?_
  intro w46 hS47
  refine sx_run 2 (todo' := [.code (cd13 [1, 1, 1])]) (us := [(5, .bool t31)]) (by kernel_rfl) ?_
  have hS48 := hS47.drop
  have hS49 := hS48.drop
  have hS50 := hS49.drop
  have hS51 := hS50.pick2
  have hS52 := hS51.drop
  refine runs_ret (fn := Try.f13) (v := .tuple #[.agg (enc_api_Final t30).toArray, .bool t31]) Try.func13 (resl_run (fn := Try.f13) (by kernel_rfl) (.cell (t := 4) (ty := 46) (by kernel_rfl) (loads_agg (hS47.blk 0 rfl) (by kernel_rfl) (lenK (len_api_Final _) (by kernel_rfl))) (.tmp (t := 5) (by kernel_rfl) .nil))) ?_
  have hr53 := (Option.some.inj hp33)
  cases hr53
  exact hR _ _ ⟨rfl, hS52⟩

noncomputable def cd14 (p : List Nat) : Code := sub (bodyOf Try.f14) p
def script_Taken.l0 (a1 : List api_Pick) (t6 : List Bool) (t36 : List api_Pick) (t40 : Int) : Option (List api_Pick) :=
  (if (decide (t40 < (a1.length : Int))) = true then (if 0 ≤ t40 ∧ t40 < (a1.length : Int) then (if 0 ≤ t40 ∧ t40 < (t6.length : Int) then (if (gt t6 t40) = true then (if (t36.length + ([(gt a1 t40)] : List api_Pick).length) * 24 ≤ 140737488355328 then (script_Taken.l0 a1 t6 (t36 ++ ([(gt a1 t40)] : List api_Pick)) (IntKind.i64.wrap (t40 + 1))) else none) else (script_Taken.l0 a1 t6 t36 (IntKind.i64.wrap (t40 + 1)))) else none) else none) else some (t36))
 partial_fixpoint
def script_Taken.f (a0_0 : ByteArray) (a0_1 : Bool) (a0_1c0vc0v : weirlaw15_Graph) (a0_2 : Bool) (a0_3 : Bool) (a1 : List api_Pick) : Option (List api_Pick) :=
  (script_Replay.f a0_0 a0_1 (⟨a0_1c0vc0v.To, a0_1c0vc0v.Ends, a0_1c0vc0v.Odd, a0_1c0vc0v.Holes⟩ : weirlaw15_Graph) a0_2 a0_3 a1 >>= (fun (t5, t6) => (script_Taken.l0 a1 t6 [] 0 >>= (fun t26 => some (t26)))))
set_option maxHeartbeats 16000000 in
theorem script_Taken.ok (a0_0 : ByteArray) (a0_1 : Bool) (a0_1c0vc0v : weirlaw15_Graph) (a0_2 : Bool) (a0_3 : Bool) (a1 : List api_Pick) (ba0_1c0 : Nat) (ba0_1c0vc0 : Nat) (Aa0_1c0vc0v_0 : Option Addr) (ca0_1c0vc0v_0 : Nat) (Aa1 : Option Addr) (ca1 : Nat) {w0 : World} {Z : Zm} {fs : List XObj} {w : World} (hS0 : St w0 Z (xblk ba0_1c0 53 ([.func (.func 20) #[] #[.pointer (some ⟨ba0_1c0vc0, 0, none⟩)]]) :: xblk ba0_1c0vc0 25 ([.slice Aa0_1c0vc0v_0 a0_1c0vc0v.To.length ca0_1c0vc0v_0, .int .u64 a0_1c0vc0v.Ends, .bool a0_1c0vc0v.Odd, .int .i64 a0_1c0vc0v.Holes]) :: fs) w) (ha0_1c0vc0v_0 : SlZ (repL (flat (encI .i64)) 1) 1 Z Aa0_1c0vc0v_0 ca0_1c0vc0v_0 a0_1c0vc0v.To) (ha1 : SlZ (flat enc_api_Pick) 3 Z Aa1 ca1 a1) {q0 : List api_Pick} (hp0 : script_Taken.f a0_0 a0_1 a0_1c0vc0v a0_2 a0_3 a1 = some q0) :
    Calls Try.prog 14 #[.agg #[.string a0_0, cond a0_1 (.func (.func 21) #[] #[.pointer (some ⟨ba0_1c0, 0, none⟩), .pointer (some ⟨ba0_1c0vc0, 0, none⟩)]) .nilFunc, cond a0_2 (.func (.func 22) #[] #[.pointer (some ⟨ba0_1c0, 0, none⟩), .pointer (some ⟨ba0_1c0vc0, 0, none⟩)]) .nilFunc, cond a0_3 (.func (.func 23) #[] #[.pointer (some ⟨ba0_1c0, 0, none⟩), .pointer (some ⟨ba0_1c0vc0, 0, none⟩)]) .nilFunc], .slice Aa1 a1.length ca1] w (fun e w' => ∃ (QA0 : Option Addr) (Qc0 : Nat), e = .returned (.slice QA0 q0.length Qc0) ∧ St w0 Z (xrow QA0 Qc0 39 3 (q0.flatMap enc_api_Pick) :: xblk ba0_1c0 53 ([.func (.func 20) #[] #[.pointer (some ⟨ba0_1c0vc0, 0, none⟩)]]) :: xblk ba0_1c0vc0 25 ([.slice Aa0_1c0vc0v_0 a0_1c0vc0v.To.length ca0_1c0vc0v_0, .int .u64 a0_1c0vc0v.Ends, .bool a0_1c0vc0v.Odd, .int .i64 a0_1c0vc0v.Holes]) :: fs) w') := by
  refine calls_abs ?_; intro R hR
  unfold script_Taken.f at hp0
  refine calls_of_runs (fn := Try.f14) (c := cd14 []) Try.func14 (by kernel_rfl) (al := [.agg #[.string a0_0, cond a0_1 (.func (.func 21) #[] #[.pointer (some ⟨ba0_1c0, 0, none⟩), .pointer (some ⟨ba0_1c0vc0, 0, none⟩)]) .nilFunc, cond a0_2 (.func (.func 22) #[] #[.pointer (some ⟨ba0_1c0, 0, none⟩), .pointer (some ⟨ba0_1c0vc0, 0, none⟩)]) .nilFunc, cond a0_3 (.func (.func 23) #[] #[.pointer (some ⟨ba0_1c0, 0, none⟩), .pointer (some ⟨ba0_1c0vc0, 0, none⟩)]) .nilFunc], .slice Aa1 a1.length ca1]) rfl (n := 31) rfl ?_
  refine sx_run 2 (todo' := [.inRegion (opsOf (cd14 [0])) [0, 1], .code (cd14 [1])]) (us := []) (by kernel_rfl) ?_
  refine r_box (c := (cd14 [0])) (i := 0) (d := (some 2)) (ty := 0) (x := (.tmp 0)) (v := .agg #[.string a0_0, cond a0_1 (.func (.func 21) #[] #[.pointer (some ⟨ba0_1c0, 0, none⟩), .pointer (some ⟨ba0_1c0vc0, 0, none⟩)]) .nilFunc, cond a0_2 (.func (.func 22) #[] #[.pointer (some ⟨ba0_1c0, 0, none⟩), .pointer (some ⟨ba0_1c0vc0, 0, none⟩)]) .nilFunc, cond a0_3 (.func (.func 23) #[] #[.pointer (some ⟨ba0_1c0, 0, none⟩), .pointer (some ⟨ba0_1c0vc0, 0, none⟩)]) .nilFunc]) (t := 31) (cs := [.string a0_0, cond a0_1 (.func (.func 21) #[] #[.pointer (some ⟨ba0_1c0, 0, none⟩), .pointer (some ⟨ba0_1c0vc0, 0, none⟩)]) .nilFunc, cond a0_2 (.func (.func 22) #[] #[.pointer (some ⟨ba0_1c0, 0, none⟩), .pointer (some ⟨ba0_1c0vc0, 0, none⟩)]) .nilFunc, cond a0_3 (.func (.func 23) #[] #[.pointer (some ⟨ba0_1c0, 0, none⟩), .pointer (some ⟨ba0_1c0vc0, 0, none⟩)]) .nilFunc]) hS0 (by kernel_rfl) (by kernel_rfl) (by kernel_rfl) (by kernel_rfl) ?_
  intro b1 w2 hS3
  refine sx_run 4 (todo' := [.inRegion (opsOf (cd14 [1, 0])) [0, 1, 2, 3, 4, 5, 6, 7], .code (cd14 [1, 1])]) (us := [(4, .slice none 0 0)]) (by kernel_rfl) ?_
  refine r_load (c := (cd14 [1, 0])) (i := 0) (d := (some 11)) (ty := 31) (t := 31) (x := (.tmp 2)) (p := ⟨b1, 0, none⟩) (v := .agg #[.string a0_0, cond a0_1 (.func (.func 21) #[] #[.pointer (some ⟨ba0_1c0, 0, none⟩), .pointer (some ⟨ba0_1c0vc0, 0, none⟩)]) .nilFunc, cond a0_2 (.func (.func 22) #[] #[.pointer (some ⟨ba0_1c0, 0, none⟩), .pointer (some ⟨ba0_1c0vc0, 0, none⟩)]) .nilFunc, cond a0_3 (.func (.func 23) #[] #[.pointer (some ⟨ba0_1c0, 0, none⟩), .pointer (some ⟨ba0_1c0vc0, 0, none⟩)]) .nilFunc]) (by kernel_rfl) (by kernel_rfl) (by kernel_rfl) (loads_agg (hS3.blk 0 rfl) (by kernel_rfl) (by kernel_rfl)) ?_
  refine sx_run 1 (todo' := [.inRegion (opsOf (cd14 [1, 0])) [2, 3, 4, 5, 6, 7], .code (cd14 [1, 1])]) (us := [(12, .slice Aa1 a1.length ca1)]) (by kernel_rfl) ?_
  obtain ⟨⟨t5, t6⟩, hr11, hp12⟩ := bind_some' hp0
  try dsimp only at hp12
  have hS16 := hS3.pick2
  have hS17 := hS16.pick2
  refine r_call1 (c := (cd14 [1, 0])) (i := 2) (d := (some 13)) (g := 10) (args := #[.agg #[.string a0_0, cond a0_1 (.func (.func 21) #[] #[.pointer (some ⟨ba0_1c0, 0, none⟩), .pointer (some ⟨ba0_1c0vc0, 0, none⟩)]) .nilFunc, cond a0_2 (.func (.func 22) #[] #[.pointer (some ⟨ba0_1c0, 0, none⟩), .pointer (some ⟨ba0_1c0vc0, 0, none⟩)]) .nilFunc, cond a0_3 (.func (.func 23) #[] #[.pointer (some ⟨ba0_1c0, 0, none⟩), .pointer (some ⟨ba0_1c0vc0, 0, none⟩)]) .nilFunc], .slice Aa1 a1.length ca1]) (by kernel_rfl) (by kernel_rfl) (by kernel_rfl) (by kernel_rfl) (script_Replay.ok a0_0 a0_1 (⟨a0_1c0vc0v.To, a0_1c0vc0v.Ends, a0_1c0vc0v.Odd, a0_1c0vc0v.Holes⟩ : weirlaw15_Graph) a0_2 a0_3 a1 ba0_1c0 ba0_1c0vc0 Aa0_1c0vc0v_0 ca0_1c0vc0v_0 Aa1 ca1 hS17 ha0_1c0vc0v_0 ha1 hr11) ?_
  rintro _ w18 ⟨Q7, Q8, Q9, Q10, rfl, hS19⟩
  refine ⟨.tuple #[.slice Q7 t5.length Q8, .slice Q9 t6.length Q10], rfl, ?_⟩
  refine sx_run 19 (todo' := [.code (cd14 [1, 1, 1, 0, 1, 0, 0]), .inLoop (cd14 [1, 1, 1, 0, 1, 0, 0]), .inBlock 0, .code (cd14 [1, 1, 1, 1])]) (us := [(10, .tuple #[.slice Q7 t5.length Q8, .slice Q9 t6.length Q10]), (14, .slice Q7 t5.length Q8), (15, .slice Q9 t6.length Q10), (5, .slice Q7 t5.length Q8), (6, .slice Q9 t6.length Q10), (7, .slice none 0 0), (16, .slice Aa1 a1.length ca1), (17, .int .i64 (a1.length : Int)), (18, .int .i64 0)]) (by kernel_rfl) ?_
  have hS20 := hS19.drop
  have hS21 := hS20.pick3
  have hS22 := hS21.drop
  obtain ⟨v23, hv24, hp25⟩ := bind_some' hp12
  have J32 : ∀ (t26 : List api_Pick) (he34 : t26 = v23) (l33 : List Value) (A27 : Option Addr) (c28 : Nat) (w30 : World) (hS31 : St w0 Z (xrow A27 c28 39 3 (t26.flatMap enc_api_Pick) :: xblk ba0_1c0 53 ([.func (.func 20) #[] #[.pointer (some ⟨ba0_1c0vc0, 0, none⟩)]]) :: xblk ba0_1c0vc0 25 ([.slice Aa0_1c0vc0v_0 a0_1c0vc0v.To.length ca0_1c0vc0v_0, .int .u64 a0_1c0vc0v.Ends, .bool a0_1c0vc0v.Odd, .int .i64 a0_1c0vc0v.Holes]) :: fs) w30), Runs Try.prog 14 [.code (cd14 [1, 1, 1, 1])] (fill [none, none, none, none, none, none, none, some (.slice A27 t26.length c28), none, none, none, none, none, none, none, none, none, none, none, none, none, none, none, none, none, none, none, none, none, none, none, none, none] l33) w30 R := by
   intro t26 he34 l33 A27 c28 w30 hS31
   subst he34
   try dsimp only at hp25
   refine sx_run 5 (todo' := [.code (cd14 [1, 1, 1, 1, 1])]) (us := [(32, .slice A27 t26.length c28), (4, .slice A27 t26.length c28)]) (by kernel_rfl) ?_
   refine runs_ret (fn := Try.f14) (v := .slice A27 t26.length c28) Try.func14 (by kernel_rfl) ?_
   have hr35 := (Option.some.inj hp25)
   cases hr35
   exact hR _ _ ⟨A27, c28, rfl, hS31⟩
  have L49 : ∀ (t36 : List api_Pick) (t40 : Int) (e44 : (List api_Pick)), script_Taken.l0 a1 t6 t36 t40 = some e44 → e44 = v23 → ∀ (l43 : List Value) (A37 : Option Addr) (c38 : Nat) (w41 : World) (hS42 : St w0 Z (xrow Q9 Q10 4 1 (t6.flatMap encB) :: xrow A37 c38 39 3 (t36.flatMap enc_api_Pick) :: xblk ba0_1c0 53 ([.func (.func 20) #[] #[.pointer (some ⟨ba0_1c0vc0, 0, none⟩)]]) :: xblk ba0_1c0vc0 25 ([.slice Aa0_1c0vc0v_0 a0_1c0vc0v.To.length ca0_1c0vc0v_0, .int .u64 a0_1c0vc0v.Ends, .bool a0_1c0vc0v.Odd, .int .i64 a0_1c0vc0v.Holes]) :: fs) w41), Runs Try.prog 14 [.code (cd14 [1, 1, 1, 0, 1, 0, 0]), .inLoop (cd14 [1, 1, 1, 0, 1, 0, 0]), .inBlock 0, .code (cd14 [1, 1, 1, 1])] (fill [none, none, none, none, none, none, some (.slice Q9 t6.length Q10), some (.slice A37 t36.length c38), none, none, none, none, none, none, none, none, some (.slice Aa1 a1.length ca1), some (.int .i64 (a1.length : Int)), some (.int .i64 t40), none, none, none, none, none, none, none, none, none, none, none, none, none, none] l43) w41 R := by
   refine script_Taken.l0.partial_correctness a1 t6 (fun t36 t40 e44 => e44 = v23 → ∀ (l43 : List Value) (A37 : Option Addr) (c38 : Nat) (w41 : World) (hS42 : St w0 Z (xrow Q9 Q10 4 1 (t6.flatMap encB) :: xrow A37 c38 39 3 (t36.flatMap enc_api_Pick) :: xblk ba0_1c0 53 ([.func (.func 20) #[] #[.pointer (some ⟨ba0_1c0vc0, 0, none⟩)]]) :: xblk ba0_1c0vc0 25 ([.slice Aa0_1c0vc0v_0 a0_1c0vc0v.To.length ca0_1c0vc0v_0, .int .u64 a0_1c0vc0v.Ends, .bool a0_1c0vc0v.Odd, .int .i64 a0_1c0vc0v.Holes]) :: fs) w41), Runs Try.prog 14 [.code (cd14 [1, 1, 1, 0, 1, 0, 0]), .inLoop (cd14 [1, 1, 1, 0, 1, 0, 0]), .inBlock 0, .code (cd14 [1, 1, 1, 1])] (fill [none, none, none, none, none, none, some (.slice Q9 t6.length Q10), some (.slice A37 t36.length c38), none, none, none, none, none, none, none, none, some (.slice Aa1 a1.length ca1), some (.int .i64 (a1.length : Int)), some (.int .i64 t40), none, none, none, none, none, none, none, none, none, none, none, none, none, none] l43) w41 R) ?_
   intro rec48 ih47 t36 t40 e44 hb46 he45 l43 A37 c38 w41 hS42
   refine sx_split 3 (todo' := [.inRegion (opsOf (cd14 [1, 1, 1, 0, 1, 0, 0, 0])) [], .code (cd14 [1, 1, 1, 0, 1, 0, 0, 1]), .inLoop (cd14 [1, 1, 1, 0, 1, 0, 0]), .inBlock 0, .code (cd14 [1, 1, 1, 1])]) (us := []) (d := 19) (t := (decide (t40 < (a1.length : Int)))) (by kernel_rfl) (fun h50 => ?_) (fun h51 => ?_)
   ·skip
    have hp52 := ite_t hb46 h50
    refine sx_run 9 (todo' := [.inRegion (opsOf (cd14 [1, 1, 1, 0, 1, 0, 0, 1, 1, 0, 0, 0])) [1, 2, 3, 4, 5], .code (cd14 [1, 1, 1, 0, 1, 0, 0, 1, 1, 0, 0, 1]), .inBlock 1, .code (cd14 [1, 1, 1, 0, 1, 0, 0, 1, 1, 1]), .inLoop (cd14 [1, 1, 1, 0, 1, 0, 0]), .inBlock 0, .code (cd14 [1, 1, 1, 1])]) (us := [(20, .int .i64 t40)]) (by kernel_rfl) ?_
    obtain ⟨g53, hp54⟩ := ite_some hp52
    obtain ⟨b55, p56, hA57, hc58⟩ := ha1.atF g53.1 g53.2
    refine r_indexAddr (c := (cd14 [1, 1, 1, 0, 1, 0, 0, 1, 1, 0, 0, 0])) (i := 1) (d := (some 21)) (ty := 0) (t := 33) (e := 39) (n := a1.length) (cp := ca1) (sz := 3) (kk := .i64) (x := (.tmp 16)) (y := (.tmp 18)) (b := b55) (o' := p56) (j := t40) (by kernel_rfl) (by kernel_rfl) (slv (by kernel_rfl) hA57) (by kernel_rfl) (by kernel_rfl) (by kernel_rfl) g53.1 g53.2 ?_
    refine r_load (c := (cd14 [1, 1, 1, 0, 1, 0, 0, 1, 1, 0, 0, 0])) (i := 2) (d := (some 22)) (ty := 39) (t := 39) (x := (.tmp 21)) (p := ⟨b55, p56 + t40.toNat * 3, none⟩) (v := .agg (enc_api_Pick (gt a1 t40)).toArray) (by kernel_rfl) (by kernel_rfl) (by kernel_rfl) (loads_agg (hc58.cells hS42) (by kernel_rfl) (by kernel_rfl)) ?_
    refine r_alloc (c := (cd14 [1, 1, 1, 0, 1, 0, 0, 1, 1, 0, 0, 0])) (i := 3) (d := (some 9)) (ty := 0) (z := .agg (enc_api_Pick (⟨0, 0, 0⟩ : api_Pick)).toArray) (t := 39) (cs := enc_api_Pick (⟨0, 0, 0⟩ : api_Pick)) hS42 (by kernel_rfl) (by kernel_rfl) (by kernel_rfl) (by kernel_rfl) ?_
    intro b59 w60 hS61
    refine sx_run 1 (todo' := [.inRegion (opsOf (cd14 [1, 1, 1, 0, 1, 0, 0, 1, 1, 0, 0, 0])) [5], .code (cd14 [1, 1, 1, 0, 1, 0, 0, 1, 1, 0, 0, 1]), .inBlock 1, .code (cd14 [1, 1, 1, 0, 1, 0, 0, 1, 1, 1]), .inLoop (cd14 [1, 1, 1, 0, 1, 0, 0]), .inBlock 0, .code (cd14 [1, 1, 1, 1])]) (us := [(8, .int .i64 t40)]) (by kernel_rfl) ?_
    refine r_store (c := (cd14 [1, 1, 1, 0, 1, 0, 0, 1, 1, 0, 0, 0])) (i := 5) (d := none) (ty := 0) (t := 39) (x := (.tmp 9)) (y := (.tmp 22)) (b := b59) (o := 0) (e := 39) (cs := enc_api_Pick (⟨0, 0, 0⟩ : api_Pick)) (v := .agg (enc_api_Pick (gt a1 t40)).toArray) (vs := enc_api_Pick (gt a1 t40)) (cs' := enc_api_Pick (gt a1 t40)) hS61 (by kernel_rfl) (by kernel_rfl) (by kernel_rfl) (by kernel_rfl) (by kernel_rfl) (by kernel_rfl) (one_api_Pick _) (Nat.le_of_ble_eq_true (by kernel_rfl)) (by kernel_rfl) ?_
    intro w63 hS64
    refine sx_run 5 (todo' := [.inRegion (opsOf (cd14 [1, 1, 1, 0, 1, 0, 0, 1, 1, 0, 0, 1, 0])) [2, 3], .code (cd14 [1, 1, 1, 0, 1, 0, 0, 1, 1, 0, 0, 1, 1]), .inBlock 1, .code (cd14 [1, 1, 1, 0, 1, 0, 0, 1, 1, 1]), .inLoop (cd14 [1, 1, 1, 0, 1, 0, 0]), .inBlock 0, .code (cd14 [1, 1, 1, 1])]) (us := [(23, .slice Q9 t6.length Q10), (24, .int .i64 t40)]) (by kernel_rfl) ?_
    obtain ⟨g65, hp66⟩ := ite_some hp54
    obtain ⟨b67, p68, hA69, -⟩ := (hS64.row 1 rfl).at_ len_encB (by omega) g65.1 g65.2
    refine r_indexAddr (c := (cd14 [1, 1, 1, 0, 1, 0, 0, 1, 1, 0, 0, 1, 0])) (i := 2) (d := (some 25)) (ty := 0) (t := 41) (e := 4) (n := t6.length) (cp := Q10) (sz := 1) (kk := .i64) (x := (.tmp 23)) (y := (.tmp 24)) (b := b67) (o' := p68) (j := t40) (by kernel_rfl) (by kernel_rfl) (slv (by kernel_rfl) hA69) (by kernel_rfl) (by kernel_rfl) (by kernel_rfl) g65.1 g65.2 ?_
    refine r_load (c := (cd14 [1, 1, 1, 0, 1, 0, 0, 1, 1, 0, 0, 1, 0])) (i := 3) (d := (some 26)) (ty := 4) (t := 4) (x := (.tmp 25)) (p := ⟨b67, p68 + t40.toNat * 1, none⟩) (v := .bool (gt t6 t40)) (by kernel_rfl) (by kernel_rfl) (by kernel_rfl) (loads_at 0 ((hS64.row 1 rfl).at2 hA69 len_encB (by omega) g65.1 g65.2) (by kernel_rfl) (by kernel_rfl)) ?_
    refine r_split (gt t6 t40) (fun h71 => ?_) (fun h72 => ?_)
    ·skip
     have hp73 := ite_t hp66 h71
     refine sx_run 4 (todo' := [.inRegion (opsOf (cd14 [1, 1, 1, 0, 1, 0, 0, 1, 1, 0, 0, 1, 1, 0])) [1, 2, 3, 4], .inBlock 1, .code (cd14 [1, 1, 1, 0, 1, 0, 0, 1, 1, 1]), .inLoop (cd14 [1, 1, 1, 0, 1, 0, 0]), .inBlock 0, .code (cd14 [1, 1, 1, 1])]) (us := [(27, .slice A37 t36.length c38)]) (by kernel_rfl) ?_
     refine r_load (c := (cd14 [1, 1, 1, 0, 1, 0, 0, 1, 1, 0, 0, 1, 1, 0])) (i := 1) (d := (some 28)) (ty := 39) (t := 39) (x := (.tmp 9)) (p := ⟨b59, 0, none⟩) (v := .agg (enc_api_Pick (gt a1 t40)).toArray) (by kernel_rfl) (by kernel_rfl) (by kernel_rfl) (loads_agg (hS64.blk 0 rfl) (by kernel_rfl) (by kernel_rfl)) ?_
     refine r_lit (c := (cd14 [1, 1, 1, 0, 1, 0, 0, 1, 1, 0, 0, 1, 1, 0])) (i := 2) (d := (some 29)) (ty := 33) (t := 33) (e := 39) (sz := 3) (n := 1) (parts := #[(0, (.tmp 28))]) (vs := [(0, .agg (enc_api_Pick (gt a1 t40)).toArray)]) (z := zeroOf Try.prog 39) (cs' := ([(gt a1 t40)] : List api_Pick).flatMap enc_api_Pick) hS64 (by kernel_rfl) (by kernel_rfl) (by kernel_rfl) (by kernel_rfl) (by kernel_rfl) (by decide) (by decide) (by kernel_rfl) rfl (Parts.cons (c := enc_api_Pick (gt a1 t40)) (by kernel_rfl) (len_api_Pick _) Parts.nil) rfl ?_
     intro b75 w76 hS77
     have hS78 := hS77.pick3
     obtain ⟨g79, hp80⟩ := ite_some hp73
     refine r_append (c := (cd14 [1, 1, 1, 0, 1, 0, 0, 1, 1, 0, 0, 1, 1, 0])) (i := 3) (d := (some 30)) (ty := 33) (enc := enc_api_Pick) (e := 39) (u := 39) (t := 33) (t2 := 33) (sz := 3) (cp := c38) (A := A37) (bytes := 24) (xs := t36) (ys := ([(gt a1 t40)] : List api_Pick)) (s := (.tmp 27)) (x := (.tmp 29)) (xv := .slice (some ⟨b75, 0, none⟩) ([(gt a1 t40)] : List api_Pick).length 1) (info := infoOf Try.prog 39) (z := zeroOf Try.prog 39) (ycs := ([(gt a1 t40)] : List api_Pick).flatMap enc_api_Pick) hS78 (by kernel_rfl) (by kernel_rfl) (by kernel_rfl) (by kernel_rfl) (by kernel_rfl) (.inl (by kernel_rfl)) (by kernel_rfl) (by kernel_rfl) (by kernel_rfl) (by kernel_rfl) (by kernel_rfl) (by omega) len_api_Pick one_api_Pick (src_row (hS78.row 1 rfl) (by omega) len_api_Pick) rfl g79 (by omega) ?_
     intro A81 c82 w83 hS84
     refine sx_run 7 (todo' := [.inLoop (cd14 [1, 1, 1, 0, 1, 0, 0]), .inBlock 0, .code (cd14 [1, 1, 1, 1])]) (us := [(7, .slice A81 (t36 ++ ([(gt a1 t40)] : List api_Pick)).length c82), (31, .int .i64 (IntKind.i64.wrap (t40 + 1))), (18, .int .i64 (IntKind.i64.wrap (t40 + 1)))]) (by kernel_rfl) ?_
     have hS86 := hS84.pick1
     have hS87 := hS86.drop
     have hS88 := hS87.pick1
     have hS89 := hS88.drop
     have hS90 := hS89.pick3
     have hS91 := hS90.pick3
     have hS92 := hS91.pick2
     have hS93 := hS92.pick3
     refine sx_run 1 (todo' := [.code (cd14 [1, 1, 1, 0, 1, 0, 0]), .inLoop (cd14 [1, 1, 1, 0, 1, 0, 0]), .inBlock 0, .code (cd14 [1, 1, 1, 1])]) (us := []) (by kernel_rfl) ?_
     refine Runs.fill (m := [none, none, none, none, none, none, some (.slice Q9 t6.length Q10), some (.slice A81 (t36 ++ ([(gt a1 t40)] : List api_Pick)).length c82), none, none, none, none, none, none, none, none, some (.slice Aa1 a1.length ca1), some (.int .i64 (a1.length : Int)), some (.int .i64 (IntKind.i64.wrap (t40 + 1))), none, none, none, none, none, none, none, none, none, none, none, none, none, none]) (by kernel_rfl) ?_
     exact ih47 (t36 ++ ([(gt a1 t40)] : List api_Pick)) (IntKind.i64.wrap (t40 + 1)) _ hp80 he45 _ A81 c82 _ hS93
    ·skip
     have hp94 := ite_f hp66 h72
     refine sx_run 8 (todo' := [.inLoop (cd14 [1, 1, 1, 0, 1, 0, 0]), .inBlock 0, .code (cd14 [1, 1, 1, 1])]) (us := [(31, .int .i64 (IntKind.i64.wrap (t40 + 1))), (18, .int .i64 (IntKind.i64.wrap (t40 + 1)))]) (by kernel_rfl) ?_
     have hS95 := hS64.drop
     refine sx_run 1 (todo' := [.code (cd14 [1, 1, 1, 0, 1, 0, 0]), .inLoop (cd14 [1, 1, 1, 0, 1, 0, 0]), .inBlock 0, .code (cd14 [1, 1, 1, 1])]) (us := []) (by kernel_rfl) ?_
     refine Runs.fill (m := [none, none, none, none, none, none, some (.slice Q9 t6.length Q10), some (.slice A37 t36.length c38), none, none, none, none, none, none, none, none, some (.slice Aa1 a1.length ca1), some (.int .i64 (a1.length : Int)), some (.int .i64 (IntKind.i64.wrap (t40 + 1))), none, none, none, none, none, none, none, none, none, none, none, none, none, none]) (by kernel_rfl) ?_
     exact ih47 t36 (IntKind.i64.wrap (t40 + 1)) _ hp94 he45 _ A37 c38 _ hS95
   ·skip
    have hp96 := ite_f hb46 h51
    refine sx_run 4 (todo' := [.code (cd14 [1, 1, 1, 1])]) (us := []) (by kernel_rfl) ?_
    have hS97 := hS42.drop
    refine Runs.fill (m := [none, none, none, none, none, none, none, some (.slice A37 t36.length c38), none, none, none, none, none, none, none, none, none, none, none, none, none, none, none, none, none, none, none, none, none, none, none, none, none]) (by kernel_rfl) ?_
    exact J32 t36 ((Option.some.inj hp96).trans he45) _ A37 c38 _ hS97
  have hS99 := hS22.nilrow none 39 3
  have hS100 := hS99.pick3
  have hS101 := hS100.pick3
  have hS102 := hS101.pick2
  have hS103 := hS102.pick3
  refine Runs.fill (m := [none, none, none, none, none, none, some (.slice Q9 t6.length Q10), some (.slice none 0 0), none, none, none, none, none, none, none, none, some (.slice Aa1 a1.length ca1), some (.int .i64 (a1.length : Int)), some (.int .i64 0), none, none, none, none, none, none, none, none, none, none, none, none, none, none]) (by kernel_rfl) ?_
  exact L49 [] 0 _ hv24 rfl _ none 0 _ hS103

noncomputable def cd15 (p : List Nat) : Code := sub (bodyOf Try.f15) p
def script_Straight.l1 (t5 : List api_Pick) (t16 : List ByteArray) (t47 : List (ByteArray × Int)) (t68 : List api_Pick) (t72 : Int) : Option (List api_Pick) :=
  (if (decide (t72 < (t5.length : Int))) = true then (if 0 ≤ t72 ∧ t72 < (t5.length : Int) then (if (t68.length + ([(gt t5 t72)] : List api_Pick).length) * 24 ≤ 140737488355328 then (if 0 ≤ (IntKind.i64.wrap (t72 + 1)) ∧ (IntKind.i64.wrap (t72 + 1)) < (t16.length : Int) then (script_Straight.l1 t5 t16 t47 (t68 ++ ([(gt t5 t72)] : List api_Pick)) ((mget t47 (gt t16 (IntKind.i64.wrap (t72 + 1)))).getD (0 : Int))) else none) else none) else none) else some (t68))
 partial_fixpoint
def script_Straight.l0 (t16 : List ByteArray) (t129 : Int) (t130 : List (ByteArray × Int)) : Option (List (ByteArray × Int)) :=
  (if (decide (t129 < (t16.length : Int))) = true then (if 0 ≤ t129 ∧ t129 < (t16.length : Int) then (script_Straight.l0 t16 (IntKind.i64.wrap (t129 + 1)) (mput t130 (gt t16 t129) t129)) else none) else some (t130))
 partial_fixpoint
def script_Straight.f (a0_0 : ByteArray) (a0_1 : Bool) (a0_1c0vc0v : weirlaw15_Graph) (a0_2 : Bool) (a0_3 : Bool) (a1 : List api_Pick) : Option (List api_Pick) :=
  (script_Taken.f a0_0 a0_1 (⟨a0_1c0vc0v.To, a0_1c0vc0v.Ends, a0_1c0vc0v.Odd, a0_1c0vc0v.Holes⟩ : weirlaw15_Graph) a0_2 a0_3 a1 >>= (fun t5 => (script_Replay.f a0_0 a0_1 (⟨a0_1c0vc0v.To, a0_1c0vc0v.Ends, a0_1c0vc0v.Odd, a0_1c0vc0v.Holes⟩ : weirlaw15_Graph) a0_2 a0_3 t5 >>= (fun (t16, t17) => (script_Straight.l0 t16 0 ([] : List (ByteArray × Int)) >>= (fun t47 => (script_Straight.l1 t5 t16 t47 [] ((mget t47 a0_0).getD (0 : Int)) >>= (fun t58 => some (t58)))))))))
set_option maxHeartbeats 16000000 in
theorem script_Straight.ok (a0_0 : ByteArray) (a0_1 : Bool) (a0_1c0vc0v : weirlaw15_Graph) (a0_2 : Bool) (a0_3 : Bool) (a1 : List api_Pick) (ba0_1c0 : Nat) (ba0_1c0vc0 : Nat) (Aa0_1c0vc0v_0 : Option Addr) (ca0_1c0vc0v_0 : Nat) (Aa1 : Option Addr) (ca1 : Nat) {w0 : World} {Z : Zm} {fs : List XObj} {w : World} (hS0 : St w0 Z (xblk ba0_1c0 53 ([.func (.func 20) #[] #[.pointer (some ⟨ba0_1c0vc0, 0, none⟩)]]) :: xblk ba0_1c0vc0 25 ([.slice Aa0_1c0vc0v_0 a0_1c0vc0v.To.length ca0_1c0vc0v_0, .int .u64 a0_1c0vc0v.Ends, .bool a0_1c0vc0v.Odd, .int .i64 a0_1c0vc0v.Holes]) :: fs) w) (ha0_1c0vc0v_0 : SlZ (repL (flat (encI .i64)) 1) 1 Z Aa0_1c0vc0v_0 ca0_1c0vc0v_0 a0_1c0vc0v.To) (ha1 : SlZ (flat enc_api_Pick) 3 Z Aa1 ca1 a1) {q0 : List api_Pick} (hp0 : script_Straight.f a0_0 a0_1 a0_1c0vc0v a0_2 a0_3 a1 = some q0) :
    Calls Try.prog 15 #[.agg #[.string a0_0, cond a0_1 (.func (.func 21) #[] #[.pointer (some ⟨ba0_1c0, 0, none⟩), .pointer (some ⟨ba0_1c0vc0, 0, none⟩)]) .nilFunc, cond a0_2 (.func (.func 22) #[] #[.pointer (some ⟨ba0_1c0, 0, none⟩), .pointer (some ⟨ba0_1c0vc0, 0, none⟩)]) .nilFunc, cond a0_3 (.func (.func 23) #[] #[.pointer (some ⟨ba0_1c0, 0, none⟩), .pointer (some ⟨ba0_1c0vc0, 0, none⟩)]) .nilFunc], .slice Aa1 a1.length ca1] w (fun e w' => ∃ (QA0 : Option Addr) (Qc0 : Nat), e = .returned (.slice QA0 q0.length Qc0) ∧ St w0 Z (xrow QA0 Qc0 39 3 (q0.flatMap enc_api_Pick) :: xblk ba0_1c0 53 ([.func (.func 20) #[] #[.pointer (some ⟨ba0_1c0vc0, 0, none⟩)]]) :: xblk ba0_1c0vc0 25 ([.slice Aa0_1c0vc0v_0 a0_1c0vc0v.To.length ca0_1c0vc0v_0, .int .u64 a0_1c0vc0v.Ends, .bool a0_1c0vc0v.Odd, .int .i64 a0_1c0vc0v.Holes]) :: fs) w') := by
  refine calls_abs ?_; intro R hR
  unfold script_Straight.f at hp0
  refine calls_of_runs (fn := Try.f15) (c := cd15 []) Try.func15 (by kernel_rfl) (al := [.agg #[.string a0_0, cond a0_1 (.func (.func 21) #[] #[.pointer (some ⟨ba0_1c0, 0, none⟩), .pointer (some ⟨ba0_1c0vc0, 0, none⟩)]) .nilFunc, cond a0_2 (.func (.func 22) #[] #[.pointer (some ⟨ba0_1c0, 0, none⟩), .pointer (some ⟨ba0_1c0vc0, 0, none⟩)]) .nilFunc, cond a0_3 (.func (.func 23) #[] #[.pointer (some ⟨ba0_1c0, 0, none⟩), .pointer (some ⟨ba0_1c0vc0, 0, none⟩)]) .nilFunc], .slice Aa1 a1.length ca1]) rfl (n := 54) rfl ?_
  refine sx_run 2 (todo' := [.inRegion (opsOf (cd15 [0])) [0, 1], .code (cd15 [1])]) (us := []) (by kernel_rfl) ?_
  refine r_box (c := (cd15 [0])) (i := 0) (d := (some 2)) (ty := 0) (x := (.tmp 0)) (v := .agg #[.string a0_0, cond a0_1 (.func (.func 21) #[] #[.pointer (some ⟨ba0_1c0, 0, none⟩), .pointer (some ⟨ba0_1c0vc0, 0, none⟩)]) .nilFunc, cond a0_2 (.func (.func 22) #[] #[.pointer (some ⟨ba0_1c0, 0, none⟩), .pointer (some ⟨ba0_1c0vc0, 0, none⟩)]) .nilFunc, cond a0_3 (.func (.func 23) #[] #[.pointer (some ⟨ba0_1c0, 0, none⟩), .pointer (some ⟨ba0_1c0vc0, 0, none⟩)]) .nilFunc]) (t := 31) (cs := [.string a0_0, cond a0_1 (.func (.func 21) #[] #[.pointer (some ⟨ba0_1c0, 0, none⟩), .pointer (some ⟨ba0_1c0vc0, 0, none⟩)]) .nilFunc, cond a0_2 (.func (.func 22) #[] #[.pointer (some ⟨ba0_1c0, 0, none⟩), .pointer (some ⟨ba0_1c0vc0, 0, none⟩)]) .nilFunc, cond a0_3 (.func (.func 23) #[] #[.pointer (some ⟨ba0_1c0, 0, none⟩), .pointer (some ⟨ba0_1c0vc0, 0, none⟩)]) .nilFunc]) hS0 (by kernel_rfl) (by kernel_rfl) (by kernel_rfl) (by kernel_rfl) ?_
  intro b1 w2 hS3
  refine sx_run 4 (todo' := [.inRegion (opsOf (cd15 [1, 0])) [0, 1, 2, 3], .code (cd15 [1, 1])]) (us := [(4, .slice none 0 0)]) (by kernel_rfl) ?_
  refine r_load (c := (cd15 [1, 0])) (i := 0) (d := (some 12)) (ty := 31) (t := 31) (x := (.tmp 2)) (p := ⟨b1, 0, none⟩) (v := .agg #[.string a0_0, cond a0_1 (.func (.func 21) #[] #[.pointer (some ⟨ba0_1c0, 0, none⟩), .pointer (some ⟨ba0_1c0vc0, 0, none⟩)]) .nilFunc, cond a0_2 (.func (.func 22) #[] #[.pointer (some ⟨ba0_1c0, 0, none⟩), .pointer (some ⟨ba0_1c0vc0, 0, none⟩)]) .nilFunc, cond a0_3 (.func (.func 23) #[] #[.pointer (some ⟨ba0_1c0, 0, none⟩), .pointer (some ⟨ba0_1c0vc0, 0, none⟩)]) .nilFunc]) (by kernel_rfl) (by kernel_rfl) (by kernel_rfl) (loads_agg (hS3.blk 0 rfl) (by kernel_rfl) (by kernel_rfl)) ?_
  refine sx_run 1 (todo' := [.inRegion (opsOf (cd15 [1, 0])) [2, 3], .code (cd15 [1, 1])]) (us := [(13, .slice Aa1 a1.length ca1)]) (by kernel_rfl) ?_
  obtain ⟨t5, hr8, hp9⟩ := bind_some' hp0
  have hS12 := hS3.pick2
  have hS13 := hS12.pick2
  refine r_call1 (c := (cd15 [1, 0])) (i := 2) (d := (some 14)) (g := 14) (args := #[.agg #[.string a0_0, cond a0_1 (.func (.func 21) #[] #[.pointer (some ⟨ba0_1c0, 0, none⟩), .pointer (some ⟨ba0_1c0vc0, 0, none⟩)]) .nilFunc, cond a0_2 (.func (.func 22) #[] #[.pointer (some ⟨ba0_1c0, 0, none⟩), .pointer (some ⟨ba0_1c0vc0, 0, none⟩)]) .nilFunc, cond a0_3 (.func (.func 23) #[] #[.pointer (some ⟨ba0_1c0, 0, none⟩), .pointer (some ⟨ba0_1c0vc0, 0, none⟩)]) .nilFunc], .slice Aa1 a1.length ca1]) (by kernel_rfl) (by kernel_rfl) (by kernel_rfl) (by kernel_rfl) (script_Taken.ok a0_0 a0_1 (⟨a0_1c0vc0v.To, a0_1c0vc0v.Ends, a0_1c0vc0v.Odd, a0_1c0vc0v.Holes⟩ : weirlaw15_Graph) a0_2 a0_3 a1 ba0_1c0 ba0_1c0vc0 Aa0_1c0vc0v_0 ca0_1c0vc0v_0 Aa1 ca1 hS13 ha0_1c0vc0v_0 ha1 hr8) ?_
  rintro _ w14 ⟨Q6, Q7, rfl, hS15⟩
  refine ⟨.slice Q6 t5.length Q7, rfl, ?_⟩
  refine sx_run 4 (todo' := [.inRegion (opsOf (cd15 [1, 1, 0])) [0, 1, 2, 3, 4, 5, 6, 7], .code (cd15 [1, 1, 1])]) (us := [(1, .slice Q6 t5.length Q7)]) (by kernel_rfl) ?_
  refine r_load (c := (cd15 [1, 1, 0])) (i := 0) (d := (some 16)) (ty := 31) (t := 31) (x := (.tmp 2)) (p := ⟨b1, 0, none⟩) (v := .agg #[.string a0_0, cond a0_1 (.func (.func 21) #[] #[.pointer (some ⟨ba0_1c0, 0, none⟩), .pointer (some ⟨ba0_1c0vc0, 0, none⟩)]) .nilFunc, cond a0_2 (.func (.func 22) #[] #[.pointer (some ⟨ba0_1c0, 0, none⟩), .pointer (some ⟨ba0_1c0vc0, 0, none⟩)]) .nilFunc, cond a0_3 (.func (.func 23) #[] #[.pointer (some ⟨ba0_1c0, 0, none⟩), .pointer (some ⟨ba0_1c0vc0, 0, none⟩)]) .nilFunc]) (by kernel_rfl) (by kernel_rfl) (by kernel_rfl) (loads_agg (hS15.blk 3 rfl) (by kernel_rfl) (by kernel_rfl)) ?_
  refine sx_run 1 (todo' := [.inRegion (opsOf (cd15 [1, 1, 0])) [2, 3, 4, 5, 6, 7], .code (cd15 [1, 1, 1])]) (us := [(17, .slice Q6 t5.length Q7)]) (by kernel_rfl) ?_
  obtain ⟨⟨t16, t17⟩, hr22, hp23⟩ := bind_some' hp9
  try dsimp only at hp23
  obtain ⟨Z27, hz28, hS29, hs30, hb31⟩ := hS15.lendrow len_api_Pick (by omega)
  have hS32 := hS29.pick1
  have hS33 := hS32.pick1
  refine r_call1 (c := (cd15 [1, 1, 0])) (i := 2) (d := (some 18)) (g := 10) (args := #[.agg #[.string a0_0, cond a0_1 (.func (.func 21) #[] #[.pointer (some ⟨ba0_1c0, 0, none⟩), .pointer (some ⟨ba0_1c0vc0, 0, none⟩)]) .nilFunc, cond a0_2 (.func (.func 22) #[] #[.pointer (some ⟨ba0_1c0, 0, none⟩), .pointer (some ⟨ba0_1c0vc0, 0, none⟩)]) .nilFunc, cond a0_3 (.func (.func 23) #[] #[.pointer (some ⟨ba0_1c0, 0, none⟩), .pointer (some ⟨ba0_1c0vc0, 0, none⟩)]) .nilFunc], .slice Q6 t5.length Q7]) (by kernel_rfl) (by kernel_rfl) (by kernel_rfl) (by kernel_rfl) (script_Replay.ok a0_0 a0_1 (⟨a0_1c0vc0v.To, a0_1c0vc0v.Ends, a0_1c0vc0v.Odd, a0_1c0vc0v.Holes⟩ : weirlaw15_Graph) a0_2 a0_3 t5 ba0_1c0 ba0_1c0vc0 Aa0_1c0vc0v_0 ca0_1c0vc0v_0 Q6 Q7 hS33 (SlZ.mono (mono_repL (mono_flat _)) ha0_1c0vc0v_0 hz28) hs30 hr22) ?_
  rintro _ w34 ⟨Q18, Q19, Q20, Q21, rfl, hS35⟩
  refine ⟨.tuple #[.slice Q18 t16.length Q19, .slice Q20 t17.length Q21], rfl, ?_⟩
  have hS36 := hb31 _ _ hS35
  refine sx_run 8 (todo' := [.inRegion (opsOf (cd15 [1, 1, 1, 0])) [0, 1], .code (cd15 [1, 1, 1, 1])]) (us := [(15, .tuple #[.slice Q18 t16.length Q19, .slice Q20 t17.length Q21]), (19, .slice Q18 t16.length Q19), (20, .slice Q20 t17.length Q21), (5, .slice Q18 t16.length Q19), (6, .slice Q20 t17.length Q21)]) (by kernel_rfl) ?_
  refine r_makeMap (c := (cd15 [1, 1, 1, 0])) (i := 0) (d := (some 21)) (ty := 60) (t := 60) hS36 (by kernel_rfl) (by kernel_rfl) ?_
  intro b37 w38 hS39
  have hS41 : St w0 Z (xmap b37 (([] : List (ByteArray × Int)).map (kv Value.string (Value.int .i64))) :: xrow Q6 Q7 39 3 (t5.flatMap enc_api_Pick) :: xrow Q18 Q19 9 1 (t16.flatMap encS) :: xrow Q20 Q21 4 1 (t17.flatMap encB) :: xblk ba0_1c0 53 ([.func (.func 20) #[] #[.pointer (some ⟨ba0_1c0vc0, 0, none⟩)]]) :: xblk ba0_1c0vc0 25 ([.slice Aa0_1c0vc0v_0 a0_1c0vc0v.To.length ca0_1c0vc0v_0, .int .u64 a0_1c0vc0v.Ends, .bool a0_1c0vc0v.Odd, .int .i64 a0_1c0vc0v.Holes]) :: xblk b1 31 ([.string a0_0, cond a0_1 (.func (.func 21) #[] #[.pointer (some ⟨ba0_1c0, 0, none⟩), .pointer (some ⟨ba0_1c0vc0, 0, none⟩)]) .nilFunc, cond a0_2 (.func (.func 22) #[] #[.pointer (some ⟨ba0_1c0, 0, none⟩), .pointer (some ⟨ba0_1c0vc0, 0, none⟩)]) .nilFunc, cond a0_3 (.func (.func 23) #[] #[.pointer (some ⟨ba0_1c0, 0, none⟩), .pointer (some ⟨ba0_1c0vc0, 0, none⟩)]) .nilFunc]) :: fs) w38 := hS39
  refine sx_run 11 (todo' := [.code (cd15 [1, 1, 1, 1, 0, 1, 0, 0]), .inLoop (cd15 [1, 1, 1, 1, 0, 1, 0, 0]), .inBlock 0, .code (cd15 [1, 1, 1, 1, 1])]) (us := [(7, .map (some b37)), (22, .slice Q18 t16.length Q19), (23, .int .i64 (t16.length : Int)), (24, .int .i64 0)]) (by kernel_rfl) ?_
  have hS42 := hS41.pick3
  have hS43 := hS42.drop
  obtain ⟨v44, hv45, hp46⟩ := bind_some' hp23
  have J50 : ∀ (t47 : List (ByteArray × Int)) (he52 : t47 = v44) (l51 : List Value) (w48 : World) (hS49 : St w0 Z (xrow Q6 Q7 39 3 (t5.flatMap enc_api_Pick) :: xblk b1 31 ([.string a0_0, cond a0_1 (.func (.func 21) #[] #[.pointer (some ⟨ba0_1c0, 0, none⟩), .pointer (some ⟨ba0_1c0vc0, 0, none⟩)]) .nilFunc, cond a0_2 (.func (.func 22) #[] #[.pointer (some ⟨ba0_1c0, 0, none⟩), .pointer (some ⟨ba0_1c0vc0, 0, none⟩)]) .nilFunc, cond a0_3 (.func (.func 23) #[] #[.pointer (some ⟨ba0_1c0, 0, none⟩), .pointer (some ⟨ba0_1c0vc0, 0, none⟩)]) .nilFunc]) :: xblk ba0_1c0 53 ([.func (.func 20) #[] #[.pointer (some ⟨ba0_1c0vc0, 0, none⟩)]]) :: xblk ba0_1c0vc0 25 ([.slice Aa0_1c0vc0v_0 a0_1c0vc0v.To.length ca0_1c0vc0v_0, .int .u64 a0_1c0vc0v.Ends, .bool a0_1c0vc0v.Odd, .int .i64 a0_1c0vc0v.Holes]) :: xrow Q18 Q19 9 1 (t16.flatMap encS) :: xmap b37 (t47.map (kv Value.string (Value.int .i64))) :: fs) w48), Runs Try.prog 15 [.code (cd15 [1, 1, 1, 1, 1])] (fill [none, some (.slice Q6 t5.length Q7), some (.pointer (some ⟨b1, 0, none⟩)), none, none, some (.slice Q18 t16.length Q19), none, some (.map (some b37)), none, none, none, none, none, none, none, none, none, none, none, none, none, none, none, none, none, none, none, none, none, none, none, none, none, none, none, none, none, none, none, none, none, none, none, none, none, none, none, none, none, none, none, none, none, none, none, none] l51) w48 R := by
   intro t47 he52 l51 w48 hS49
   subst he52
   try dsimp only at hp46
   refine sx_run 9 (todo' := [.inRegion (opsOf (cd15 [1, 1, 1, 1, 1, 1, 0, 0])) [2, 3, 4], .code (cd15 [1, 1, 1, 1, 1, 1, 0, 1]), .code (cd15 [1, 1, 1, 1, 1, 1, 1])]) (us := [(10, .slice none 0 0), (33, .map (some b37)), (34, .pointer (some ⟨b1, 0, none⟩))]) (by kernel_rfl) ?_
   refine r_load (c := (cd15 [1, 1, 1, 1, 1, 1, 0, 0])) (i := 2) (d := (some 35)) (ty := 9) (t := 9) (x := (.tmp 34)) (p := ⟨b1, 0, none⟩) (v := .string a0_0) (by kernel_rfl) (by kernel_rfl) (by kernel_rfl) (loads_at 0 (hS49.blk 1 rfl) (by kernel_rfl) (by kernel_rfl)) ?_
   refine r_val (c := (cd15 [1, 1, 1, 1, 1, 1, 0, 0])) (i := 3) (d := (some 36)) (ty := 3) (op := .lookup 60 (.tmp 33) (.tmp 35) false) (v := .int .i64 ((mget t47 a0_0).getD (0 : Int))) (by kernel_rfl) (by kernel_rfl) (fun o ho _ => x_lookup1 (eK := Value.string) (eV := (Value.int .i64)) (dk := .string) (b := b37) (t := 60) (kt := 9) (et := 3) (m := t47) (kk := a0_0) (z := (0 : Int)) (hS49.at 5 rfl) key_str (by kernel_rfl) (by kernel_rfl) (by kernel_rfl) (by kernel_rfl) (by kernel_rfl) ho) ?_
   refine sx_run 4 (todo' := [.code (cd15 [1, 1, 1, 1, 1, 1, 0, 1, 0, 0]), .inLoop (cd15 [1, 1, 1, 1, 1, 1, 0, 1, 0, 0]), .inBlock 2, .code (cd15 [1, 1, 1, 1, 1, 1, 1])]) (us := [(11, .int .i64 ((mget t47 a0_0).getD (0 : Int)))]) (by kernel_rfl) ?_
   have hS53 := hS49.pick1
   have hS54 := hS53.drop
   obtain ⟨v55, hv56, hp57⟩ := bind_some' hp46
   have J64 : ∀ (t58 : List api_Pick) (he66 : t58 = v55) (l65 : List Value) (A59 : Option Addr) (c60 : Nat) (w62 : World) (hS63 : St w0 Z (xrow A59 c60 39 3 (t58.flatMap enc_api_Pick) :: xblk ba0_1c0 53 ([.func (.func 20) #[] #[.pointer (some ⟨ba0_1c0vc0, 0, none⟩)]]) :: xblk ba0_1c0vc0 25 ([.slice Aa0_1c0vc0v_0 a0_1c0vc0v.To.length ca0_1c0vc0v_0, .int .u64 a0_1c0vc0v.Ends, .bool a0_1c0vc0v.Odd, .int .i64 a0_1c0vc0v.Holes]) :: fs) w62), Runs Try.prog 15 [.code (cd15 [1, 1, 1, 1, 1, 1, 1])] (fill [none, none, none, none, none, none, none, none, none, none, some (.slice A59 t58.length c60), none, none, none, none, none, none, none, none, none, none, none, none, none, none, none, none, none, none, none, none, none, none, none, none, none, none, none, none, none, none, none, none, none, none, none, none, none, none, none, none, none, none, none, none, none] l65) w62 R := by
    intro t58 he66 l65 A59 c60 w62 hS63
    subst he66
    try dsimp only at hp57
    refine sx_run 5 (todo' := [.code (cd15 [1, 1, 1, 1, 1, 1, 1, 1])]) (us := [(55, .slice A59 t58.length c60), (4, .slice A59 t58.length c60)]) (by kernel_rfl) ?_
    refine runs_ret (fn := Try.f15) (v := .slice A59 t58.length c60) Try.func15 (by kernel_rfl) ?_
    have hr67 := (Option.some.inj hp57)
    cases hr67
    exact hR _ _ ⟨A59, c60, rfl, hS63⟩
   have L81 : ∀ (t68 : List api_Pick) (t72 : Int) (e76 : (List api_Pick)), script_Straight.l1 t5 t16 t47 t68 t72 = some e76 → e76 = v55 → ∀ (l75 : List Value) (A69 : Option Addr) (c70 : Nat) (w73 : World) (hS74 : St w0 Z (xrow Q6 Q7 39 3 (t5.flatMap enc_api_Pick) :: xrow Q18 Q19 9 1 (t16.flatMap encS) :: xmap b37 (t47.map (kv Value.string (Value.int .i64))) :: xrow A69 c70 39 3 (t68.flatMap enc_api_Pick) :: xblk ba0_1c0 53 ([.func (.func 20) #[] #[.pointer (some ⟨ba0_1c0vc0, 0, none⟩)]]) :: xblk ba0_1c0vc0 25 ([.slice Aa0_1c0vc0v_0 a0_1c0vc0v.To.length ca0_1c0vc0v_0, .int .u64 a0_1c0vc0v.Ends, .bool a0_1c0vc0v.Odd, .int .i64 a0_1c0vc0v.Holes]) :: fs) w73), Runs Try.prog 15 [.code (cd15 [1, 1, 1, 1, 1, 1, 0, 1, 0, 0]), .inLoop (cd15 [1, 1, 1, 1, 1, 1, 0, 1, 0, 0]), .inBlock 2, .code (cd15 [1, 1, 1, 1, 1, 1, 1])] (fill [none, some (.slice Q6 t5.length Q7), none, none, none, some (.slice Q18 t16.length Q19), none, some (.map (some b37)), none, none, some (.slice A69 t68.length c70), some (.int .i64 t72), none, none, none, none, none, none, none, none, none, none, none, none, none, none, none, none, none, none, none, none, none, none, none, none, none, none, none, none, none, none, none, none, none, none, none, none, none, none, none, none, none, none, none, none] l75) w73 R := by
    refine script_Straight.l1.partial_correctness t5 t16 t47 (fun t68 t72 e76 => e76 = v55 → ∀ (l75 : List Value) (A69 : Option Addr) (c70 : Nat) (w73 : World) (hS74 : St w0 Z (xrow Q6 Q7 39 3 (t5.flatMap enc_api_Pick) :: xrow Q18 Q19 9 1 (t16.flatMap encS) :: xmap b37 (t47.map (kv Value.string (Value.int .i64))) :: xrow A69 c70 39 3 (t68.flatMap enc_api_Pick) :: xblk ba0_1c0 53 ([.func (.func 20) #[] #[.pointer (some ⟨ba0_1c0vc0, 0, none⟩)]]) :: xblk ba0_1c0vc0 25 ([.slice Aa0_1c0vc0v_0 a0_1c0vc0v.To.length ca0_1c0vc0v_0, .int .u64 a0_1c0vc0v.Ends, .bool a0_1c0vc0v.Odd, .int .i64 a0_1c0vc0v.Holes]) :: fs) w73), Runs Try.prog 15 [.code (cd15 [1, 1, 1, 1, 1, 1, 0, 1, 0, 0]), .inLoop (cd15 [1, 1, 1, 1, 1, 1, 0, 1, 0, 0]), .inBlock 2, .code (cd15 [1, 1, 1, 1, 1, 1, 1])] (fill [none, some (.slice Q6 t5.length Q7), none, none, none, some (.slice Q18 t16.length Q19), none, some (.map (some b37)), none, none, some (.slice A69 t68.length c70), some (.int .i64 t72), none, none, none, none, none, none, none, none, none, none, none, none, none, none, none, none, none, none, none, none, none, none, none, none, none, none, none, none, none, none, none, none, none, none, none, none, none, none, none, none, none, none, none, none] l75) w73 R) ?_
    intro rec80 ih79 t68 t72 e76 hb78 he77 l75 A69 c70 w73 hS74
    refine sx_split 7 (todo' := [.inRegion (opsOf (cd15 [1, 1, 1, 1, 1, 1, 0, 1, 0, 0, 0, 0])) [], .code (cd15 [1, 1, 1, 1, 1, 1, 0, 1, 0, 0, 0, 1]), .code (cd15 [1, 1, 1, 1, 1, 1, 0, 1, 0, 0, 1]), .inLoop (cd15 [1, 1, 1, 1, 1, 1, 0, 1, 0, 0]), .inBlock 2, .code (cd15 [1, 1, 1, 1, 1, 1, 1])]) (us := [(37, .int .i64 t72), (38, .slice Q6 t5.length Q7), (39, .int .i64 (t5.length : Int))]) (d := 40) (t := (decide (t72 < (t5.length : Int)))) (by kernel_rfl) (fun h82 => ?_) (fun h83 => ?_)
    ·skip
     have hp84 := ite_t hb78 h82
     refine sx_run 9 (todo' := [.inRegion (opsOf (cd15 [1, 1, 1, 1, 1, 1, 0, 1, 0, 0, 1, 0, 0])) [3, 4, 5, 6, 7], .inBlock 3, .code (cd15 [1, 1, 1, 1, 1, 1, 0, 1, 0, 0, 1, 1]), .inLoop (cd15 [1, 1, 1, 1, 1, 1, 0, 1, 0, 0]), .inBlock 2, .code (cd15 [1, 1, 1, 1, 1, 1, 1])]) (us := [(48, .slice A69 t68.length c70), (49, .slice Q6 t5.length Q7), (50, .int .i64 t72)]) (by kernel_rfl) ?_
     obtain ⟨g85, hp86⟩ := ite_some hp84
     obtain ⟨b87, p88, hA89, -⟩ := (hS74.row 0 rfl).at_ len_api_Pick (by omega) g85.1 g85.2
     refine r_indexAddr (c := (cd15 [1, 1, 1, 1, 1, 1, 0, 1, 0, 0, 1, 0, 0])) (i := 3) (d := (some 51)) (ty := 0) (t := 33) (e := 39) (n := t5.length) (cp := Q7) (sz := 3) (kk := .i64) (x := (.tmp 49)) (y := (.tmp 50)) (b := b87) (o' := p88) (j := t72) (by kernel_rfl) (by kernel_rfl) (slv (by kernel_rfl) hA89) (by kernel_rfl) (by kernel_rfl) (by kernel_rfl) g85.1 g85.2 ?_
     refine r_load (c := (cd15 [1, 1, 1, 1, 1, 1, 0, 1, 0, 0, 1, 0, 0])) (i := 4) (d := (some 52)) (ty := 39) (t := 39) (x := (.tmp 51)) (p := ⟨b87, p88 + t72.toNat * 3, none⟩) (v := .agg (enc_api_Pick (gt t5 t72)).toArray) (by kernel_rfl) (by kernel_rfl) (by kernel_rfl) (loads_agg ((hS74.row 0 rfl).at2 hA89 len_api_Pick (by omega) g85.1 g85.2) (by kernel_rfl) (by kernel_rfl)) ?_
     refine r_lit (c := (cd15 [1, 1, 1, 1, 1, 1, 0, 1, 0, 0, 1, 0, 0])) (i := 5) (d := (some 53)) (ty := 33) (t := 33) (e := 39) (sz := 3) (n := 1) (parts := #[(0, (.tmp 52))]) (vs := [(0, .agg (enc_api_Pick (gt t5 t72)).toArray)]) (z := zeroOf Try.prog 39) (cs' := ([(gt t5 t72)] : List api_Pick).flatMap enc_api_Pick) hS74 (by kernel_rfl) (by kernel_rfl) (by kernel_rfl) (by kernel_rfl) (by kernel_rfl) (by decide) (by decide) (by kernel_rfl) rfl (Parts.cons (c := enc_api_Pick (gt t5 t72)) (by kernel_rfl) (len_api_Pick _) Parts.nil) rfl ?_
     intro b92 w93 hS94
     have hS95 := hS94.pick4
     obtain ⟨g96, hp97⟩ := ite_some hp86
     refine r_append (c := (cd15 [1, 1, 1, 1, 1, 1, 0, 1, 0, 0, 1, 0, 0])) (i := 6) (d := (some 54)) (ty := 33) (enc := enc_api_Pick) (e := 39) (u := 39) (t := 33) (t2 := 33) (sz := 3) (cp := c70) (A := A69) (bytes := 24) (xs := t68) (ys := ([(gt t5 t72)] : List api_Pick)) (s := (.tmp 48)) (x := (.tmp 53)) (xv := .slice (some ⟨b92, 0, none⟩) ([(gt t5 t72)] : List api_Pick).length 1) (info := infoOf Try.prog 39) (z := zeroOf Try.prog 39) (ycs := ([(gt t5 t72)] : List api_Pick).flatMap enc_api_Pick) hS95 (by kernel_rfl) (by kernel_rfl) (by kernel_rfl) (by kernel_rfl) (by kernel_rfl) (.inl (by kernel_rfl)) (by kernel_rfl) (by kernel_rfl) (by kernel_rfl) (by kernel_rfl) (by kernel_rfl) (by omega) len_api_Pick one_api_Pick (src_row (hS95.row 1 rfl) (by omega) len_api_Pick) rfl g96 (by omega) ?_
     intro A98 c99 w100 hS101
     refine sx_run 8 (todo' := [.inRegion (opsOf (cd15 [1, 1, 1, 1, 1, 1, 0, 1, 0, 0, 1, 1])) [4, 5, 6, 7], .inLoop (cd15 [1, 1, 1, 1, 1, 1, 0, 1, 0, 0]), .inBlock 2, .code (cd15 [1, 1, 1, 1, 1, 1, 1])]) (us := [(10, .slice A98 (t68 ++ ([(gt t5 t72)] : List api_Pick)).length c99), (41, .map (some b37)), (42, .slice Q18 t16.length Q19), (43, .int .i64 t72), (44, .int .i64 (IntKind.i64.wrap (t72 + 1)))]) (by kernel_rfl) ?_
     obtain ⟨g103, hp104⟩ := ite_some hp97
     obtain ⟨b105, p106, hA107, -⟩ := (hS101.row 3 rfl).at_ len_encS (by omega) g103.1 g103.2
     refine r_indexAddr (c := (cd15 [1, 1, 1, 1, 1, 1, 0, 1, 0, 0, 1, 1])) (i := 4) (d := (some 45)) (ty := 0) (t := 40) (e := 9) (n := t16.length) (cp := Q19) (sz := 1) (kk := .i64) (x := (.tmp 42)) (y := (.tmp 44)) (b := b105) (o' := p106) (j := (IntKind.i64.wrap (t72 + 1))) (by kernel_rfl) (by kernel_rfl) (slv (by kernel_rfl) hA107) (by kernel_rfl) (by kernel_rfl) (by kernel_rfl) g103.1 g103.2 ?_
     refine r_load (c := (cd15 [1, 1, 1, 1, 1, 1, 0, 1, 0, 0, 1, 1])) (i := 5) (d := (some 46)) (ty := 9) (t := 9) (x := (.tmp 45)) (p := ⟨b105, p106 + (IntKind.i64.wrap (t72 + 1)).toNat * 1, none⟩) (v := .string (gt t16 (IntKind.i64.wrap (t72 + 1)))) (by kernel_rfl) (by kernel_rfl) (by kernel_rfl) (loads_at 0 ((hS101.row 3 rfl).at2 hA107 len_encS (by omega) g103.1 g103.2) (by kernel_rfl) (by kernel_rfl)) ?_
     refine r_val (c := (cd15 [1, 1, 1, 1, 1, 1, 0, 1, 0, 0, 1, 1])) (i := 6) (d := (some 47)) (ty := 3) (op := .lookup 60 (.tmp 41) (.tmp 46) false) (v := .int .i64 ((mget t47 (gt t16 (IntKind.i64.wrap (t72 + 1)))).getD (0 : Int))) (by kernel_rfl) (by kernel_rfl) (fun o ho _ => x_lookup1 (eK := Value.string) (eV := (Value.int .i64)) (dk := .string) (b := b37) (t := 60) (kt := 9) (et := 3) (m := t47) (kk := (gt t16 (IntKind.i64.wrap (t72 + 1)))) (z := (0 : Int)) (hS101.at 4 rfl) key_str (by kernel_rfl) (by kernel_rfl) (by kernel_rfl) (by kernel_rfl) (by kernel_rfl) ho) ?_
     refine sx_run 2 (todo' := [.inLoop (cd15 [1, 1, 1, 1, 1, 1, 0, 1, 0, 0]), .inBlock 2, .code (cd15 [1, 1, 1, 1, 1, 1, 1])]) (us := [(11, .int .i64 ((mget t47 (gt t16 (IntKind.i64.wrap (t72 + 1)))).getD (0 : Int)))]) (by kernel_rfl) ?_
     have hS109 := hS101.pick1
     have hS110 := hS109.drop
     have hS111 := hS110.pick5
     have hS112 := hS111.pick5
     have hS113 := hS112.pick2
     have hS114 := hS113.pick5
     have hS115 := hS114.pick5
     have hS116 := hS115.pick5
     refine sx_run 1 (todo' := [.code (cd15 [1, 1, 1, 1, 1, 1, 0, 1, 0, 0]), .inLoop (cd15 [1, 1, 1, 1, 1, 1, 0, 1, 0, 0]), .inBlock 2, .code (cd15 [1, 1, 1, 1, 1, 1, 1])]) (us := []) (by kernel_rfl) ?_
     refine Runs.fill (m := [none, some (.slice Q6 t5.length Q7), none, none, none, some (.slice Q18 t16.length Q19), none, some (.map (some b37)), none, none, some (.slice A98 (t68 ++ ([(gt t5 t72)] : List api_Pick)).length c99), some (.int .i64 ((mget t47 (gt t16 (IntKind.i64.wrap (t72 + 1)))).getD (0 : Int))), none, none, none, none, none, none, none, none, none, none, none, none, none, none, none, none, none, none, none, none, none, none, none, none, none, none, none, none, none, none, none, none, none, none, none, none, none, none, none, none, none, none, none, none]) (by kernel_rfl) ?_
     exact ih79 (t68 ++ ([(gt t5 t72)] : List api_Pick)) ((mget t47 (gt t16 (IntKind.i64.wrap (t72 + 1)))).getD (0 : Int)) _ hp104 he77 _ A98 c99 _ hS116
    ·skip
     have hp117 := ite_f hb78 h83
     refine sx_run 3 (todo' := [.code (cd15 [1, 1, 1, 1, 1, 1, 1])]) (us := []) (by kernel_rfl) ?_
     have hS118 := hS74.drop
     have hS119 := hS118.drop
     have hS120 := hS119.drop
     refine Runs.fill (m := [none, none, none, none, none, none, none, none, none, none, some (.slice A69 t68.length c70), none, none, none, none, none, none, none, none, none, none, none, none, none, none, none, none, none, none, none, none, none, none, none, none, none, none, none, none, none, none, none, none, none, none, none, none, none, none, none, none, none, none, none, none, none]) (by kernel_rfl) ?_
     exact J64 t68 ((Option.some.inj hp117).trans he77) _ A69 c70 _ hS120
   have hS122 := hS54.nilrow none 39 3
   have hS123 := hS122.pick3
   have hS124 := hS123.pick3
   have hS125 := hS124.pick2
   have hS126 := hS125.pick5
   have hS127 := hS126.pick5
   have hS128 := hS127.pick5
   refine Runs.fill (m := [none, some (.slice Q6 t5.length Q7), none, none, none, some (.slice Q18 t16.length Q19), none, some (.map (some b37)), none, none, some (.slice none 0 0), some (.int .i64 ((mget t47 a0_0).getD (0 : Int))), none, none, none, none, none, none, none, none, none, none, none, none, none, none, none, none, none, none, none, none, none, none, none, none, none, none, none, none, none, none, none, none, none, none, none, none, none, none, none, none, none, none, none, none]) (by kernel_rfl) ?_
   exact L81 [] ((mget t47 a0_0).getD (0 : Int)) _ hv56 rfl _ none 0 _ hS128
  have L139 : ∀ (t129 : Int) (t130 : List (ByteArray × Int)) (e134 : (List (ByteArray × Int))), script_Straight.l0 t16 t129 t130 = some e134 → e134 = v44 → ∀ (l133 : List Value) (w131 : World) (hS132 : St w0 Z (xrow Q6 Q7 39 3 (t5.flatMap enc_api_Pick) :: xblk b1 31 ([.string a0_0, cond a0_1 (.func (.func 21) #[] #[.pointer (some ⟨ba0_1c0, 0, none⟩), .pointer (some ⟨ba0_1c0vc0, 0, none⟩)]) .nilFunc, cond a0_2 (.func (.func 22) #[] #[.pointer (some ⟨ba0_1c0, 0, none⟩), .pointer (some ⟨ba0_1c0vc0, 0, none⟩)]) .nilFunc, cond a0_3 (.func (.func 23) #[] #[.pointer (some ⟨ba0_1c0, 0, none⟩), .pointer (some ⟨ba0_1c0vc0, 0, none⟩)]) .nilFunc]) :: xblk ba0_1c0 53 ([.func (.func 20) #[] #[.pointer (some ⟨ba0_1c0vc0, 0, none⟩)]]) :: xblk ba0_1c0vc0 25 ([.slice Aa0_1c0vc0v_0 a0_1c0vc0v.To.length ca0_1c0vc0v_0, .int .u64 a0_1c0vc0v.Ends, .bool a0_1c0vc0v.Odd, .int .i64 a0_1c0vc0v.Holes]) :: xrow Q18 Q19 9 1 (t16.flatMap encS) :: xmap b37 (t130.map (kv Value.string (Value.int .i64))) :: fs) w131), Runs Try.prog 15 [.code (cd15 [1, 1, 1, 1, 0, 1, 0, 0]), .inLoop (cd15 [1, 1, 1, 1, 0, 1, 0, 0]), .inBlock 0, .code (cd15 [1, 1, 1, 1, 1])] (fill [none, some (.slice Q6 t5.length Q7), some (.pointer (some ⟨b1, 0, none⟩)), none, none, some (.slice Q18 t16.length Q19), none, some (.map (some b37)), none, none, none, none, none, none, none, none, none, none, none, none, none, none, some (.slice Q18 t16.length Q19), some (.int .i64 (t16.length : Int)), some (.int .i64 t129), none, none, none, none, none, none, none, none, none, none, none, none, none, none, none, none, none, none, none, none, none, none, none, none, none, none, none, none, none, none, none] l133) w131 R := by
   refine script_Straight.l0.partial_correctness t16 (fun t129 t130 e134 => e134 = v44 → ∀ (l133 : List Value) (w131 : World) (hS132 : St w0 Z (xrow Q6 Q7 39 3 (t5.flatMap enc_api_Pick) :: xblk b1 31 ([.string a0_0, cond a0_1 (.func (.func 21) #[] #[.pointer (some ⟨ba0_1c0, 0, none⟩), .pointer (some ⟨ba0_1c0vc0, 0, none⟩)]) .nilFunc, cond a0_2 (.func (.func 22) #[] #[.pointer (some ⟨ba0_1c0, 0, none⟩), .pointer (some ⟨ba0_1c0vc0, 0, none⟩)]) .nilFunc, cond a0_3 (.func (.func 23) #[] #[.pointer (some ⟨ba0_1c0, 0, none⟩), .pointer (some ⟨ba0_1c0vc0, 0, none⟩)]) .nilFunc]) :: xblk ba0_1c0 53 ([.func (.func 20) #[] #[.pointer (some ⟨ba0_1c0vc0, 0, none⟩)]]) :: xblk ba0_1c0vc0 25 ([.slice Aa0_1c0vc0v_0 a0_1c0vc0v.To.length ca0_1c0vc0v_0, .int .u64 a0_1c0vc0v.Ends, .bool a0_1c0vc0v.Odd, .int .i64 a0_1c0vc0v.Holes]) :: xrow Q18 Q19 9 1 (t16.flatMap encS) :: xmap b37 (t130.map (kv Value.string (Value.int .i64))) :: fs) w131), Runs Try.prog 15 [.code (cd15 [1, 1, 1, 1, 0, 1, 0, 0]), .inLoop (cd15 [1, 1, 1, 1, 0, 1, 0, 0]), .inBlock 0, .code (cd15 [1, 1, 1, 1, 1])] (fill [none, some (.slice Q6 t5.length Q7), some (.pointer (some ⟨b1, 0, none⟩)), none, none, some (.slice Q18 t16.length Q19), none, some (.map (some b37)), none, none, none, none, none, none, none, none, none, none, none, none, none, none, some (.slice Q18 t16.length Q19), some (.int .i64 (t16.length : Int)), some (.int .i64 t129), none, none, none, none, none, none, none, none, none, none, none, none, none, none, none, none, none, none, none, none, none, none, none, none, none, none, none, none, none, none, none] l133) w131 R) ?_
   intro rec138 ih137 t129 t130 e134 hb136 he135 l133 w131 hS132
   refine sx_split 3 (todo' := [.inRegion (opsOf (cd15 [1, 1, 1, 1, 0, 1, 0, 0, 0])) [], .code (cd15 [1, 1, 1, 1, 0, 1, 0, 0, 1]), .inLoop (cd15 [1, 1, 1, 1, 0, 1, 0, 0]), .inBlock 0, .code (cd15 [1, 1, 1, 1, 1])]) (us := []) (d := 25) (t := (decide (t129 < (t16.length : Int)))) (by kernel_rfl) (fun h140 => ?_) (fun h141 => ?_)
   ·skip
    have hp142 := ite_t hb136 h140
    refine sx_run 9 (todo' := [.inRegion (opsOf (cd15 [1, 1, 1, 1, 0, 1, 0, 0, 1, 1, 0, 0, 0])) [1, 2, 3, 4], .code (cd15 [1, 1, 1, 1, 0, 1, 0, 0, 1, 1, 0, 0, 1]), .inBlock 1, .code (cd15 [1, 1, 1, 1, 0, 1, 0, 0, 1, 1, 1]), .inLoop (cd15 [1, 1, 1, 1, 0, 1, 0, 0]), .inBlock 0, .code (cd15 [1, 1, 1, 1, 1])]) (us := [(26, .int .i64 t129)]) (by kernel_rfl) ?_
    obtain ⟨g143, hp144⟩ := ite_some hp142
    obtain ⟨b145, p146, hA147, -⟩ := (hS132.row 4 rfl).at_ len_encS (by omega) g143.1 g143.2
    refine r_indexAddr (c := (cd15 [1, 1, 1, 1, 0, 1, 0, 0, 1, 1, 0, 0, 0])) (i := 1) (d := (some 27)) (ty := 0) (t := 40) (e := 9) (n := t16.length) (cp := Q19) (sz := 1) (kk := .i64) (x := (.tmp 22)) (y := (.tmp 24)) (b := b145) (o' := p146) (j := t129) (by kernel_rfl) (by kernel_rfl) (slv (by kernel_rfl) hA147) (by kernel_rfl) (by kernel_rfl) (by kernel_rfl) g143.1 g143.2 ?_
    refine r_load (c := (cd15 [1, 1, 1, 1, 0, 1, 0, 0, 1, 1, 0, 0, 0])) (i := 2) (d := (some 28)) (ty := 9) (t := 9) (x := (.tmp 27)) (p := ⟨b145, p146 + t129.toNat * 1, none⟩) (v := .string (gt t16 t129)) (by kernel_rfl) (by kernel_rfl) (by kernel_rfl) (loads_at 0 ((hS132.row 4 rfl).at2 hA147 len_encS (by omega) g143.1 g143.2) (by kernel_rfl) (by kernel_rfl)) ?_
    refine sx_run 7 (todo' := [.inRegion (opsOf (cd15 [1, 1, 1, 1, 0, 1, 0, 0, 1, 1, 0, 0, 1])) [3], .inBlock 1, .code (cd15 [1, 1, 1, 1, 0, 1, 0, 0, 1, 1, 1]), .inLoop (cd15 [1, 1, 1, 1, 0, 1, 0, 0]), .inBlock 0, .code (cd15 [1, 1, 1, 1, 1])]) (us := [(8, .int .i64 t129), (9, .string (gt t16 t129)), (29, .map (some b37)), (30, .string (gt t16 t129)), (31, .int .i64 t129)]) (by kernel_rfl) ?_
    have hS149 := hS132.pick5
    refine r_mapUpdate (c := (cd15 [1, 1, 1, 1, 0, 1, 0, 0, 1, 1, 0, 0, 1])) (i := 3) (d := none) (ty := 0) (eK := Value.string) (eV := (Value.int .i64)) (dk := .string) (b := b37) (t := 60) (kt := 9) (et := 3) (x := (.tmp 29)) (y := (.tmp 30)) (z := (.tmp 31)) (m := t130) (kk := (gt t16 t129)) (v := t129) hS149 (by kernel_rfl) (by kernel_rfl) key_str (by kernel_rfl) (by kernel_rfl) (by kernel_rfl) (by kernel_rfl) (by kernel_rfl) ?_
    intro w150 hS151
    refine sx_run 6 (todo' := [.inLoop (cd15 [1, 1, 1, 1, 0, 1, 0, 0]), .inBlock 0, .code (cd15 [1, 1, 1, 1, 1])]) (us := [(32, .int .i64 (IntKind.i64.wrap (t129 + 1))), (24, .int .i64 (IntKind.i64.wrap (t129 + 1)))]) (by kernel_rfl) ?_
    have hS152 := hS151.pick5
    have hS153 := hS152.pick5
    have hS154 := hS153.pick5
    have hS155 := hS154.pick5
    have hS156 := hS155.pick5
    refine sx_run 1 (todo' := [.code (cd15 [1, 1, 1, 1, 0, 1, 0, 0]), .inLoop (cd15 [1, 1, 1, 1, 0, 1, 0, 0]), .inBlock 0, .code (cd15 [1, 1, 1, 1, 1])]) (us := []) (by kernel_rfl) ?_
    refine Runs.fill (m := [none, some (.slice Q6 t5.length Q7), some (.pointer (some ⟨b1, 0, none⟩)), none, none, some (.slice Q18 t16.length Q19), none, some (.map (some b37)), none, none, none, none, none, none, none, none, none, none, none, none, none, none, some (.slice Q18 t16.length Q19), some (.int .i64 (t16.length : Int)), some (.int .i64 (IntKind.i64.wrap (t129 + 1))), none, none, none, none, none, none, none, none, none, none, none, none, none, none, none, none, none, none, none, none, none, none, none, none, none, none, none, none, none, none, none]) (by kernel_rfl) ?_
    exact ih137 (IntKind.i64.wrap (t129 + 1)) (mput t130 (gt t16 t129) t129) _ hp144 he135 _ _ hS156
   ·skip
    have hp157 := ite_f hb136 h141
    refine sx_run 4 (todo' := [.code (cd15 [1, 1, 1, 1, 1])]) (us := []) (by kernel_rfl) ?_
    refine Runs.fill (m := [none, some (.slice Q6 t5.length Q7), some (.pointer (some ⟨b1, 0, none⟩)), none, none, some (.slice Q18 t16.length Q19), none, some (.map (some b37)), none, none, none, none, none, none, none, none, none, none, none, none, none, none, none, none, none, none, none, none, none, none, none, none, none, none, none, none, none, none, none, none, none, none, none, none, none, none, none, none, none, none, none, none, none, none, none, none]) (by kernel_rfl) ?_
    exact J50 t130 ((Option.some.inj hp157).trans he135) _ _ hS132
  have hS158 := hS43.pick2
  have hS159 := hS158.pick4
  have hS160 := hS159.pick4
  have hS161 := hS160.pick5
  have hS162 := hS161.pick5
  refine Runs.fill (m := [none, some (.slice Q6 t5.length Q7), some (.pointer (some ⟨b1, 0, none⟩)), none, none, some (.slice Q18 t16.length Q19), none, some (.map (some b37)), none, none, none, none, none, none, none, none, none, none, none, none, none, none, some (.slice Q18 t16.length Q19), some (.int .i64 (t16.length : Int)), some (.int .i64 0), none, none, none, none, none, none, none, none, none, none, none, none, none, none, none, none, none, none, none, none, none, none, none, none, none, none, none, none, none, none, none]) (by kernel_rfl) ?_
  exact L139 0 ([] : List (ByteArray × Int)) _ hv45 rfl _ _ hS162

noncomputable def cd16 (p : List Nat) : Code := sub (bodyOf Try.f16) p
def weirlaw15_sameTexts.l0 (a0 : List ByteArray) (a1 : List ByteArray) (t16 : Int) : Option (Sum Unit Bool) :=
  (if (decide (t16 < (a0.length : Int))) = true then (if 0 ≤ t16 ∧ t16 < (a0.length : Int) then (if 0 ≤ t16 ∧ t16 < (a1.length : Int) then (if (!seq (gt a0 t16) (gt a1 t16)) = true then some (.inr (false)) else (weirlaw15_sameTexts.l0 a0 a1 (IntKind.i64.wrap (t16 + 1)))) else none) else none) else some (.inl ()))
 partial_fixpoint
def weirlaw15_sameTexts.f (a0 : List ByteArray) (a1 : List ByteArray) : Option Bool :=
  (if ((a0.length : Int) != (a1.length : Int)) = true then some (false) else (weirlaw15_sameTexts.l0 a0 a1 0 >>= (fun | .inl () => some (true) | .inr e => some e)))
set_option maxHeartbeats 16000000 in
theorem weirlaw15_sameTexts.ok (a0 : List ByteArray) (a1 : List ByteArray) (Aa0 : Option Addr) (ca0 : Nat) (Aa1 : Option Addr) (ca1 : Nat) {w0 : World} {Z : Zm} {fs : List XObj} {w : World} (hS0 : St w0 Z (fs) w) (ha0 : SlZ (flat encS) 1 Z Aa0 ca0 a0) (ha1 : SlZ (flat encS) 1 Z Aa1 ca1 a1) {q0 : Bool} (hp0 : weirlaw15_sameTexts.f a0 a1 = some q0) :
    Calls Try.prog 16 #[.slice Aa0 a0.length ca0, .slice Aa1 a1.length ca1] w (fun e w' => e = .returned (.bool q0) ∧ St w0 Z (fs) w') := by
  refine calls_abs ?_; intro R hR
  unfold weirlaw15_sameTexts.f at hp0
  refine calls_of_runs (fn := Try.f16) (c := cd16 []) Try.func16 (by kernel_rfl) (al := [.slice Aa0 a0.length ca0, .slice Aa1 a1.length ca1]) rfl (n := 24) rfl ?_
  refine sx_split 12 (todo' := [.inRegion (opsOf (cd16 [1, 0, 0])) [], .code (cd16 [1, 0, 1]), .code (cd16 [1, 1])]) (us := [(4, .bool false), (6, .slice Aa0 a0.length ca0), (7, .int .i64 (a0.length : Int)), (8, .slice Aa1 a1.length ca1), (9, .int .i64 (a1.length : Int))]) (d := 10) (t := ((a0.length : Int) != (a1.length : Int))) (by kernel_rfl) (fun h1 => ?_) (fun h2 => ?_)
  ·skip
   have hp3 := ite_t hp0 h1
   refine sx_run 6 (todo' := [.code (cd16 [1, 0, 1, 0, 1]), .code (cd16 [1, 1])]) (us := [(4, .bool false)]) (by kernel_rfl) ?_
   refine runs_ret (fn := Try.f16) (v := .bool false) Try.func16 (by kernel_rfl) ?_
   have hr4 := (Option.some.inj hp3)
   cases hr4
   exact hR _ _ ⟨rfl, hS0⟩
  ·skip
   have hp5 := ite_f hp0 h2
   refine sx_run 10 (todo' := [.code (cd16 [1, 1, 0, 1, 0, 0]), .inLoop (cd16 [1, 1, 0, 1, 0, 0]), .inBlock 0, .code (cd16 [1, 1, 1])]) (us := [(5, .int .i64 0)]) (by kernel_rfl) ?_
   obtain ⟨v6, hv7, hp8⟩ := bind_some' hp5
   have hq11 : ∀ x, Sum.inr x = v6 → x = q0 := by intro x hx; subst hx; simpa using hp8
   have J12 : ∀ (he14 : Sum.inl () = v6) (l13 : List Value) (w9 : World) (hS10 : St w0 Z (fs) w9), Runs Try.prog 16 [.code (cd16 [1, 1, 1])] (fill [none, none, none, none, none, none, none, none, none, none, none, none, none, none, none, none, none, none, none, none, none, none, none, none, none, none] l13) w9 R := by
    intro he14 l13 w9 hS10
    subst he14
    try dsimp only at hp8
    refine sx_run 4 (todo' := [.code (cd16 [1, 1, 1, 1])]) (us := [(4, .bool true)]) (by kernel_rfl) ?_
    refine runs_ret (fn := Try.f16) (v := .bool true) Try.func16 (by kernel_rfl) ?_
    have hr15 := (Option.some.inj hp8)
    cases hr15
    exact hR _ _ ⟨rfl, hS10⟩
   have L25 : ∀ (t16 : Int) (e20 : Sum Unit Bool), weirlaw15_sameTexts.l0 a0 a1 t16 = some e20 → e20 = v6 → ∀ (l19 : List Value) (w17 : World) (hS18 : St w0 Z (fs) w17), Runs Try.prog 16 [.code (cd16 [1, 1, 0, 1, 0, 0]), .inLoop (cd16 [1, 1, 0, 1, 0, 0]), .inBlock 0, .code (cd16 [1, 1, 1])] (fill [some (.slice Aa0 a0.length ca0), some (.slice Aa1 a1.length ca1), none, none, none, some (.int .i64 t16), none, none, none, none, none, none, none, none, none, none, none, none, none, none, none, none, none, none, none, none] l19) w17 R := by
    refine weirlaw15_sameTexts.l0.partial_correctness a0 a1 (fun t16 e20 => e20 = v6 → ∀ (l19 : List Value) (w17 : World) (hS18 : St w0 Z (fs) w17), Runs Try.prog 16 [.code (cd16 [1, 1, 0, 1, 0, 0]), .inLoop (cd16 [1, 1, 0, 1, 0, 0]), .inBlock 0, .code (cd16 [1, 1, 1])] (fill [some (.slice Aa0 a0.length ca0), some (.slice Aa1 a1.length ca1), none, none, none, some (.int .i64 t16), none, none, none, none, none, none, none, none, none, none, none, none, none, none, none, none, none, none, none, none] l19) w17 R) ?_
    intro rec24 ih23 t16 e20 hb22 he21 l19 w17 hS18
    have hq26 : ∀ x, Sum.inr x = e20 → x = q0 := fun x hx => hq11 x (hx.trans he21)
    refine sx_split 7 (todo' := [.inRegion (opsOf (cd16 [1, 1, 0, 1, 0, 0, 0, 0])) [], .code (cd16 [1, 1, 0, 1, 0, 0, 0, 1]), .code (cd16 [1, 1, 0, 1, 0, 0, 1]), .inLoop (cd16 [1, 1, 0, 1, 0, 0]), .inBlock 0, .code (cd16 [1, 1, 1])]) (us := [(11, .int .i64 t16), (12, .slice Aa0 a0.length ca0), (13, .int .i64 (a0.length : Int))]) (d := 14) (t := (decide (t16 < (a0.length : Int)))) (by kernel_rfl) (fun h27 => ?_) (fun h28 => ?_)
    ·skip
     have hp29 := ite_t hb22 h27
     refine sx_run 6 (todo' := [.code (cd16 [1, 1, 0, 1, 0, 0, 1, 0, 0, 0]), .code (cd16 [1, 1, 0, 1, 0, 0, 1, 0, 0, 1]), .inBlock 1, .code (cd16 [1, 1, 0, 1, 0, 0, 1, 1]), .inLoop (cd16 [1, 1, 0, 1, 0, 0]), .inBlock 0, .code (cd16 [1, 1, 1])]) (us := []) (by kernel_rfl) ?_
     refine r_quiet hS18 (c := (cd16 [1, 1, 0, 1, 0, 0, 1, 0, 0, 0])) (id := 6) (by kernel_rfl) (by kernel_rfl) (by kernel_rfl) (is := [0, 1, 2, 3, 4, 5, 6, 7, 8]) (by kernel_rfl) ?_
     refine q_run 2 (is' := [2, 3, 4, 5, 6, 7, 8]) (us := [(17, .slice Aa0 a0.length ca0), (18, .int .i64 t16)]) (by kernel_rfl) ?_
     obtain ⟨g30, hp31⟩ := ite_some hp29
     obtain ⟨b32, p33, hA34, hc35⟩ := ha0.atF g30.1 g30.2
     refine q_indexAddr (c := (cd16 [1, 1, 0, 1, 0, 0, 1, 0, 0, 0])) (i := 2) (d := (some 19)) (ty := 0) (t := 40) (e := 9) (n := a0.length) (cp := ca0) (sz := 1) (kk := .i64) (x := (.tmp 17)) (y := (.tmp 18)) (b := b32) (o' := p33) (j := t16) (by kernel_rfl) (by kernel_rfl) (slv (by kernel_rfl) hA34) (by kernel_rfl) (by kernel_rfl) (by kernel_rfl) g30.1 g30.2 ?_
     refine q_load (c := (cd16 [1, 1, 0, 1, 0, 0, 1, 0, 0, 0])) (i := 3) (d := (some 20)) (ty := 9) (t := 9) (x := (.tmp 19)) (p := ⟨b32, p33 + t16.toNat * 1, none⟩) (v := .string (gt a0 t16)) (by kernel_rfl) (by kernel_rfl) (by kernel_rfl) (fun w hC => (loads_at 0 (hc35.cells hC) (by kernel_rfl) (by kernel_rfl))) ?_
     refine q_run 2 (is' := [6, 7, 8]) (us := [(21, .slice Aa1 a1.length ca1), (22, .int .i64 t16)]) (by kernel_rfl) ?_
     obtain ⟨g36, hp37⟩ := ite_some hp31
     obtain ⟨b38, p39, hA40, hc41⟩ := ha1.atF g36.1 g36.2
     refine q_indexAddr (c := (cd16 [1, 1, 0, 1, 0, 0, 1, 0, 0, 0])) (i := 6) (d := (some 23)) (ty := 0) (t := 40) (e := 9) (n := a1.length) (cp := ca1) (sz := 1) (kk := .i64) (x := (.tmp 21)) (y := (.tmp 22)) (b := b38) (o' := p39) (j := t16) (by kernel_rfl) (by kernel_rfl) (slv (by kernel_rfl) hA40) (by kernel_rfl) (by kernel_rfl) (by kernel_rfl) g36.1 g36.2 ?_
     refine q_load (c := (cd16 [1, 1, 0, 1, 0, 0, 1, 0, 0, 0])) (i := 7) (d := (some 24)) (ty := 9) (t := 9) (x := (.tmp 23)) (p := ⟨b38, p39 + t16.toNat * 1, none⟩) (v := .string (gt a1 t16)) (by kernel_rfl) (by kernel_rfl) (by kernel_rfl) (fun w hC => (loads_at 0 (hc41.cells hC) (by kernel_rfl) (by kernel_rfl))) ?_
     refine q_splitr 1 (is' := []) (us := []) (d := 25) (t := (!seq (gt a0 t16) (gt a1 t16))) (by kernel_rfl) (fun h42 => ?_) (fun h43 => ?_)
     ·skip
      have hp44 := ite_t hp37 h42
      refine Qs.nil ?_
      intro w45 hS46
      refine sx_run 5 (todo' := [.code (cd16 [1, 1, 0, 1, 0, 0, 1, 0, 0, 1, 0, 1]), .inBlock 1, .code (cd16 [1, 1, 0, 1, 0, 0, 1, 1]), .inLoop (cd16 [1, 1, 0, 1, 0, 0]), .inBlock 0, .code (cd16 [1, 1, 1])]) (us := [(4, .bool false)]) (by kernel_rfl) ?_
      refine runs_ret (fn := Try.f16) (v := .bool false) Try.func16 (by kernel_rfl) ?_
      have hr47 := (hq26 _ (Option.some.inj hp44))
      cases hr47
      exact hR _ _ ⟨rfl, hS46⟩
     ·skip
      have hp48 := ite_f hp37 h43
      refine Qs.nil ?_
      intro w49 hS50
      refine sx_run 8 (todo' := [.inLoop (cd16 [1, 1, 0, 1, 0, 0]), .inBlock 0, .code (cd16 [1, 1, 1])]) (us := [(15, .int .i64 t16), (16, .int .i64 (IntKind.i64.wrap (t16 + 1))), (5, .int .i64 (IntKind.i64.wrap (t16 + 1)))]) (by kernel_rfl) ?_
      refine sx_run 1 (todo' := [.code (cd16 [1, 1, 0, 1, 0, 0]), .inLoop (cd16 [1, 1, 0, 1, 0, 0]), .inBlock 0, .code (cd16 [1, 1, 1])]) (us := []) (by kernel_rfl) ?_
      refine Runs.fill (m := [some (.slice Aa0 a0.length ca0), some (.slice Aa1 a1.length ca1), none, none, none, some (.int .i64 (IntKind.i64.wrap (t16 + 1))), none, none, none, none, none, none, none, none, none, none, none, none, none, none, none, none, none, none, none, none]) (by kernel_rfl) ?_
      exact ih23 (IntKind.i64.wrap (t16 + 1)) _ hp48 he21 _ _ hS50
    ·skip
     have hp51 := ite_f hb22 h28
     refine sx_run 3 (todo' := [.code (cd16 [1, 1, 1])]) (us := []) (by kernel_rfl) ?_
     refine Runs.fill (m := [none, none, none, none, none, none, none, none, none, none, none, none, none, none, none, none, none, none, none, none, none, none, none, none, none, none]) (by kernel_rfl) ?_
     exact J12 ((Option.some.inj hp51).trans he21) _ _ hS18
   refine Runs.fill (m := [some (.slice Aa0 a0.length ca0), some (.slice Aa1 a1.length ca1), none, none, none, some (.int .i64 0), none, none, none, none, none, none, none, none, none, none, none, none, none, none, none, none, none, none, none, none]) (by kernel_rfl) ?_
   exact L25 0 _ hv7 rfl _ _ hS0

noncomputable def cd17 (p : List Nat) : Code := sub (bodyOf Try.f17) p
def weirlaw15_sameBools.l0 (a0 : List Bool) (a1 : List Bool) (t16 : Int) : Option (Sum Unit Bool) :=
  (if (decide (t16 < (a0.length : Int))) = true then (if 0 ≤ t16 ∧ t16 < (a0.length : Int) then (if (gt a0 t16) = true then (if 0 ≤ t16 ∧ t16 < (a1.length : Int) then (if (gt a1 t16) = true then (weirlaw15_sameBools.l0 a0 a1 (IntKind.i64.wrap (t16 + 1))) else some (.inr (false))) else none) else (if 0 ≤ t16 ∧ t16 < (a1.length : Int) then (if (gt a1 t16) = true then some (.inr (false)) else (weirlaw15_sameBools.l0 a0 a1 (IntKind.i64.wrap (t16 + 1)))) else none)) else none) else some (.inl ()))
 partial_fixpoint
def weirlaw15_sameBools.f (a0 : List Bool) (a1 : List Bool) : Option Bool :=
  (if ((a0.length : Int) != (a1.length : Int)) = true then some (false) else (weirlaw15_sameBools.l0 a0 a1 0 >>= (fun | .inl () => some (true) | .inr e => some e)))
set_option maxHeartbeats 16000000 in
theorem weirlaw15_sameBools.ok (a0 : List Bool) (a1 : List Bool) (Aa0 : Option Addr) (ca0 : Nat) (Aa1 : Option Addr) (ca1 : Nat) {w0 : World} {Z : Zm} {fs : List XObj} {w : World} (hS0 : St w0 Z (fs) w) (ha0 : SlZ (flat encB) 1 Z Aa0 ca0 a0) (ha1 : SlZ (flat encB) 1 Z Aa1 ca1 a1) {q0 : Bool} (hp0 : weirlaw15_sameBools.f a0 a1 = some q0) :
    Calls Try.prog 17 #[.slice Aa0 a0.length ca0, .slice Aa1 a1.length ca1] w (fun e w' => e = .returned (.bool q0) ∧ St w0 Z (fs) w') := by
  refine calls_abs ?_; intro R hR
  unfold weirlaw15_sameBools.f at hp0
  refine calls_of_runs (fn := Try.f17) (c := cd17 []) Try.func17 (by kernel_rfl) (al := [.slice Aa0 a0.length ca0, .slice Aa1 a1.length ca1]) rfl (n := 24) rfl ?_
  refine sx_split 12 (todo' := [.inRegion (opsOf (cd17 [1, 0, 0])) [], .code (cd17 [1, 0, 1]), .code (cd17 [1, 1])]) (us := [(4, .bool false), (6, .slice Aa0 a0.length ca0), (7, .int .i64 (a0.length : Int)), (8, .slice Aa1 a1.length ca1), (9, .int .i64 (a1.length : Int))]) (d := 10) (t := ((a0.length : Int) != (a1.length : Int))) (by kernel_rfl) (fun h1 => ?_) (fun h2 => ?_)
  ·skip
   have hp3 := ite_t hp0 h1
   refine sx_run 6 (todo' := [.code (cd17 [1, 0, 1, 0, 1]), .code (cd17 [1, 1])]) (us := [(4, .bool false)]) (by kernel_rfl) ?_
   refine runs_ret (fn := Try.f17) (v := .bool false) Try.func17 (by kernel_rfl) ?_
   have hr4 := (Option.some.inj hp3)
   cases hr4
   exact hR _ _ ⟨rfl, hS0⟩
  ·skip
   have hp5 := ite_f hp0 h2
   refine sx_run 10 (todo' := [.code (cd17 [1, 1, 0, 1, 0, 0]), .inLoop (cd17 [1, 1, 0, 1, 0, 0]), .inBlock 0, .code (cd17 [1, 1, 1])]) (us := [(5, .int .i64 0)]) (by kernel_rfl) ?_
   obtain ⟨v6, hv7, hp8⟩ := bind_some' hp5
   have hq11 : ∀ x, Sum.inr x = v6 → x = q0 := by intro x hx; subst hx; simpa using hp8
   have J12 : ∀ (he14 : Sum.inl () = v6) (l13 : List Value) (w9 : World) (hS10 : St w0 Z (fs) w9), Runs Try.prog 17 [.code (cd17 [1, 1, 1])] (fill [none, none, none, none, none, none, none, none, none, none, none, none, none, none, none, none, none, none, none, none, none, none, none, none, none, none] l13) w9 R := by
    intro he14 l13 w9 hS10
    subst he14
    try dsimp only at hp8
    refine sx_run 4 (todo' := [.code (cd17 [1, 1, 1, 1])]) (us := [(4, .bool true)]) (by kernel_rfl) ?_
    refine runs_ret (fn := Try.f17) (v := .bool true) Try.func17 (by kernel_rfl) ?_
    have hr15 := (Option.some.inj hp8)
    cases hr15
    exact hR _ _ ⟨rfl, hS10⟩
   have L25 : ∀ (t16 : Int) (e20 : Sum Unit Bool), weirlaw15_sameBools.l0 a0 a1 t16 = some e20 → e20 = v6 → ∀ (l19 : List Value) (w17 : World) (hS18 : St w0 Z (fs) w17), Runs Try.prog 17 [.code (cd17 [1, 1, 0, 1, 0, 0]), .inLoop (cd17 [1, 1, 0, 1, 0, 0]), .inBlock 0, .code (cd17 [1, 1, 1])] (fill [some (.slice Aa0 a0.length ca0), some (.slice Aa1 a1.length ca1), none, none, none, some (.int .i64 t16), none, none, none, none, none, none, none, none, none, none, none, none, none, none, none, none, none, none, none, none] l19) w17 R := by
    refine weirlaw15_sameBools.l0.partial_correctness a0 a1 (fun t16 e20 => e20 = v6 → ∀ (l19 : List Value) (w17 : World) (hS18 : St w0 Z (fs) w17), Runs Try.prog 17 [.code (cd17 [1, 1, 0, 1, 0, 0]), .inLoop (cd17 [1, 1, 0, 1, 0, 0]), .inBlock 0, .code (cd17 [1, 1, 1])] (fill [some (.slice Aa0 a0.length ca0), some (.slice Aa1 a1.length ca1), none, none, none, some (.int .i64 t16), none, none, none, none, none, none, none, none, none, none, none, none, none, none, none, none, none, none, none, none] l19) w17 R) ?_
    intro rec24 ih23 t16 e20 hb22 he21 l19 w17 hS18
    have hq26 : ∀ x, Sum.inr x = e20 → x = q0 := fun x hx => hq11 x (hx.trans he21)
    refine sx_split 7 (todo' := [.inRegion (opsOf (cd17 [1, 1, 0, 1, 0, 0, 0, 0])) [], .code (cd17 [1, 1, 0, 1, 0, 0, 0, 1]), .code (cd17 [1, 1, 0, 1, 0, 0, 1]), .inLoop (cd17 [1, 1, 0, 1, 0, 0]), .inBlock 0, .code (cd17 [1, 1, 1])]) (us := [(11, .int .i64 t16), (12, .slice Aa0 a0.length ca0), (13, .int .i64 (a0.length : Int))]) (d := 14) (t := (decide (t16 < (a0.length : Int)))) (by kernel_rfl) (fun h27 => ?_) (fun h28 => ?_)
    ·skip
     have hp29 := ite_t hb22 h27
     refine sx_run 6 (todo' := [.code (cd17 [1, 1, 0, 1, 0, 0, 1, 0, 0, 0]), .code (cd17 [1, 1, 0, 1, 0, 0, 1, 0, 0, 1]), .inBlock 1, .code (cd17 [1, 1, 0, 1, 0, 0, 1, 1]), .inLoop (cd17 [1, 1, 0, 1, 0, 0]), .inBlock 0, .code (cd17 [1, 1, 1])]) (us := []) (by kernel_rfl) ?_
     refine r_quiet hS18 (c := (cd17 [1, 1, 0, 1, 0, 0, 1, 0, 0, 0])) (id := 6) (by kernel_rfl) (by kernel_rfl) (by kernel_rfl) (is := [0, 1, 2, 3, 4, 5, 6, 7, 8]) (by kernel_rfl) ?_
     refine q_run 2 (is' := [2, 3, 4, 5, 6, 7, 8]) (us := [(17, .slice Aa0 a0.length ca0), (18, .int .i64 t16)]) (by kernel_rfl) ?_
     obtain ⟨g30, hp31⟩ := ite_some hp29
     obtain ⟨b32, p33, hA34, hc35⟩ := ha0.atF g30.1 g30.2
     refine q_indexAddr (c := (cd17 [1, 1, 0, 1, 0, 0, 1, 0, 0, 0])) (i := 2) (d := (some 19)) (ty := 0) (t := 41) (e := 4) (n := a0.length) (cp := ca0) (sz := 1) (kk := .i64) (x := (.tmp 17)) (y := (.tmp 18)) (b := b32) (o' := p33) (j := t16) (by kernel_rfl) (by kernel_rfl) (slv (by kernel_rfl) hA34) (by kernel_rfl) (by kernel_rfl) (by kernel_rfl) g30.1 g30.2 ?_
     refine q_load (c := (cd17 [1, 1, 0, 1, 0, 0, 1, 0, 0, 0])) (i := 3) (d := (some 20)) (ty := 4) (t := 4) (x := (.tmp 19)) (p := ⟨b32, p33 + t16.toNat * 1, none⟩) (v := .bool (gt a0 t16)) (by kernel_rfl) (by kernel_rfl) (by kernel_rfl) (fun w hC => (loads_at 0 (hc35.cells hC) (by kernel_rfl) (by kernel_rfl))) ?_
     refine q_split (gt a0 t16) (fun h36 => ?_) (fun h37 => ?_)
     ·skip
      have hp38 := ite_t hp31 h36
      refine q_run 2 (is' := [6, 7, 8]) (us := [(21, .slice Aa1 a1.length ca1), (22, .int .i64 t16)]) (by kernel_rfl) ?_
      obtain ⟨g39, hp40⟩ := ite_some hp38
      obtain ⟨b41, p42, hA43, hc44⟩ := ha1.atF g39.1 g39.2
      refine q_indexAddr (c := (cd17 [1, 1, 0, 1, 0, 0, 1, 0, 0, 0])) (i := 6) (d := (some 23)) (ty := 0) (t := 41) (e := 4) (n := a1.length) (cp := ca1) (sz := 1) (kk := .i64) (x := (.tmp 21)) (y := (.tmp 22)) (b := b41) (o' := p42) (j := t16) (by kernel_rfl) (by kernel_rfl) (slv (by kernel_rfl) hA43) (by kernel_rfl) (by kernel_rfl) (by kernel_rfl) g39.1 g39.2 ?_
      refine q_load (c := (cd17 [1, 1, 0, 1, 0, 0, 1, 0, 0, 0])) (i := 7) (d := (some 24)) (ty := 4) (t := 4) (x := (.tmp 23)) (p := ⟨b41, p42 + t16.toNat * 1, none⟩) (v := .bool (gt a1 t16)) (by kernel_rfl) (by kernel_rfl) (by kernel_rfl) (fun w hC => (loads_at 0 (hc44.cells hC) (by kernel_rfl) (by kernel_rfl))) ?_
      refine q_split (gt a1 t16) (fun h45 => ?_) (fun h46 => ?_)
      ·skip
       have hp47 := ite_t hp40 h45
       refine q_run 1 (is' := []) (us := [(25, .bool false)]) (by kernel_rfl) ?_
       refine Qs.nil ?_
       intro w48 hS49
       refine sx_run 8 (todo' := [.inLoop (cd17 [1, 1, 0, 1, 0, 0]), .inBlock 0, .code (cd17 [1, 1, 1])]) (us := [(15, .int .i64 t16), (16, .int .i64 (IntKind.i64.wrap (t16 + 1))), (5, .int .i64 (IntKind.i64.wrap (t16 + 1)))]) (by kernel_rfl) ?_
       refine sx_run 1 (todo' := [.code (cd17 [1, 1, 0, 1, 0, 0]), .inLoop (cd17 [1, 1, 0, 1, 0, 0]), .inBlock 0, .code (cd17 [1, 1, 1])]) (us := []) (by kernel_rfl) ?_
       refine Runs.fill (m := [some (.slice Aa0 a0.length ca0), some (.slice Aa1 a1.length ca1), none, none, none, some (.int .i64 (IntKind.i64.wrap (t16 + 1))), none, none, none, none, none, none, none, none, none, none, none, none, none, none, none, none, none, none, none, none]) (by kernel_rfl) ?_
       exact ih23 (IntKind.i64.wrap (t16 + 1)) _ hp47 he21 _ _ hS49
      ·skip
       have hp50 := ite_f hp40 h46
       refine q_run 1 (is' := []) (us := [(25, .bool true)]) (by kernel_rfl) ?_
       refine Qs.nil ?_
       intro w51 hS52
       refine sx_run 5 (todo' := [.code (cd17 [1, 1, 0, 1, 0, 0, 1, 0, 0, 1, 0, 1]), .inBlock 1, .code (cd17 [1, 1, 0, 1, 0, 0, 1, 1]), .inLoop (cd17 [1, 1, 0, 1, 0, 0]), .inBlock 0, .code (cd17 [1, 1, 1])]) (us := [(4, .bool false)]) (by kernel_rfl) ?_
       refine runs_ret (fn := Try.f17) (v := .bool false) Try.func17 (by kernel_rfl) ?_
       have hr53 := (hq26 _ (Option.some.inj hp50))
       cases hr53
       exact hR _ _ ⟨rfl, hS52⟩
     ·skip
      have hp54 := ite_f hp31 h37
      refine q_run 2 (is' := [6, 7, 8]) (us := [(21, .slice Aa1 a1.length ca1), (22, .int .i64 t16)]) (by kernel_rfl) ?_
      obtain ⟨g55, hp56⟩ := ite_some hp54
      obtain ⟨b57, p58, hA59, hc60⟩ := ha1.atF g55.1 g55.2
      refine q_indexAddr (c := (cd17 [1, 1, 0, 1, 0, 0, 1, 0, 0, 0])) (i := 6) (d := (some 23)) (ty := 0) (t := 41) (e := 4) (n := a1.length) (cp := ca1) (sz := 1) (kk := .i64) (x := (.tmp 21)) (y := (.tmp 22)) (b := b57) (o' := p58) (j := t16) (by kernel_rfl) (by kernel_rfl) (slv (by kernel_rfl) hA59) (by kernel_rfl) (by kernel_rfl) (by kernel_rfl) g55.1 g55.2 ?_
      refine q_load (c := (cd17 [1, 1, 0, 1, 0, 0, 1, 0, 0, 0])) (i := 7) (d := (some 24)) (ty := 4) (t := 4) (x := (.tmp 23)) (p := ⟨b57, p58 + t16.toNat * 1, none⟩) (v := .bool (gt a1 t16)) (by kernel_rfl) (by kernel_rfl) (by kernel_rfl) (fun w hC => (loads_at 0 (hc60.cells hC) (by kernel_rfl) (by kernel_rfl))) ?_
      refine q_split (gt a1 t16) (fun h61 => ?_) (fun h62 => ?_)
      ·skip
       have hp63 := ite_t hp56 h61
       refine q_run 1 (is' := []) (us := [(25, .bool true)]) (by kernel_rfl) ?_
       refine Qs.nil ?_
       intro w64 hS65
       refine sx_run 5 (todo' := [.code (cd17 [1, 1, 0, 1, 0, 0, 1, 0, 0, 1, 0, 1]), .inBlock 1, .code (cd17 [1, 1, 0, 1, 0, 0, 1, 1]), .inLoop (cd17 [1, 1, 0, 1, 0, 0]), .inBlock 0, .code (cd17 [1, 1, 1])]) (us := [(4, .bool false)]) (by kernel_rfl) ?_
       refine runs_ret (fn := Try.f17) (v := .bool false) Try.func17 (by kernel_rfl) ?_
       have hr66 := (hq26 _ (Option.some.inj hp63))
       cases hr66
       exact hR _ _ ⟨rfl, hS65⟩
      ·skip
       have hp67 := ite_f hp56 h62
       refine q_run 1 (is' := []) (us := [(25, .bool false)]) (by kernel_rfl) ?_
       refine Qs.nil ?_
       intro w68 hS69
       refine sx_run 8 (todo' := [.inLoop (cd17 [1, 1, 0, 1, 0, 0]), .inBlock 0, .code (cd17 [1, 1, 1])]) (us := [(15, .int .i64 t16), (16, .int .i64 (IntKind.i64.wrap (t16 + 1))), (5, .int .i64 (IntKind.i64.wrap (t16 + 1)))]) (by kernel_rfl) ?_
       refine sx_run 1 (todo' := [.code (cd17 [1, 1, 0, 1, 0, 0]), .inLoop (cd17 [1, 1, 0, 1, 0, 0]), .inBlock 0, .code (cd17 [1, 1, 1])]) (us := []) (by kernel_rfl) ?_
       refine Runs.fill (m := [some (.slice Aa0 a0.length ca0), some (.slice Aa1 a1.length ca1), none, none, none, some (.int .i64 (IntKind.i64.wrap (t16 + 1))), none, none, none, none, none, none, none, none, none, none, none, none, none, none, none, none, none, none, none, none]) (by kernel_rfl) ?_
       exact ih23 (IntKind.i64.wrap (t16 + 1)) _ hp67 he21 _ _ hS69
    ·skip
     have hp70 := ite_f hb22 h28
     refine sx_run 3 (todo' := [.code (cd17 [1, 1, 1])]) (us := []) (by kernel_rfl) ?_
     refine Runs.fill (m := [none, none, none, none, none, none, none, none, none, none, none, none, none, none, none, none, none, none, none, none, none, none, none, none, none, none]) (by kernel_rfl) ?_
     exact J12 ((Option.some.inj hp70).trans he21) _ _ hS18
   refine Runs.fill (m := [some (.slice Aa0 a0.length ca0), some (.slice Aa1 a1.length ca1), none, none, none, some (.int .i64 0), none, none, none, none, none, none, none, none, none, none, none, none, none, none, none, none, none, none, none, none]) (by kernel_rfl) ?_
   exact L25 0 _ hv7 rfl _ _ hS0

noncomputable def cd18 (p : List Nat) : Code := sub (bodyOf Try.f18) p
def weirref15_Taken.l0 (a1 : List api_Pick) (t6 : List Bool) (t36 : List api_Pick) (t40 : Int) : Option (List api_Pick) :=
  (if (decide (t40 < (a1.length : Int))) = true then (if 0 ≤ t40 ∧ t40 < (t6.length : Int) then (if (gt t6 t40) = true then (if 0 ≤ t40 ∧ t40 < (a1.length : Int) then (if (t36.length + ([(gt a1 t40)] : List api_Pick).length) * 24 ≤ 140737488355328 then (weirref15_Taken.l0 a1 t6 (t36 ++ ([(gt a1 t40)] : List api_Pick)) (IntKind.i64.wrap (t40 + 1))) else none) else none) else (weirref15_Taken.l0 a1 t6 t36 (IntKind.i64.wrap (t40 + 1)))) else none) else some (t36))
 partial_fixpoint
def weirref15_Taken.f (a0_0 : ByteArray) (a0_1 : Bool) (a0_1c0vc0v : weirlaw15_Graph) (a0_2 : Bool) (a0_3 : Bool) (a1 : List api_Pick) : Option (List api_Pick) :=
  (weirref15_Replay.f a0_0 a0_1 (⟨a0_1c0vc0v.To, a0_1c0vc0v.Ends, a0_1c0vc0v.Odd, a0_1c0vc0v.Holes⟩ : weirlaw15_Graph) a0_2 a0_3 a1 >>= (fun (t5, t6) => (weirref15_Taken.l0 a1 t6 [] 0 >>= (fun t26 => some (t26)))))
set_option maxHeartbeats 16000000 in
theorem weirref15_Taken.ok (a0_0 : ByteArray) (a0_1 : Bool) (a0_1c0vc0v : weirlaw15_Graph) (a0_2 : Bool) (a0_3 : Bool) (a1 : List api_Pick) (ba0_1c0 : Nat) (ba0_1c0vc0 : Nat) (Aa0_1c0vc0v_0 : Option Addr) (ca0_1c0vc0v_0 : Nat) (Aa1 : Option Addr) (ca1 : Nat) {w0 : World} {Z : Zm} {fs : List XObj} {w : World} (hS0 : St w0 Z (xblk ba0_1c0 53 ([.func (.func 20) #[] #[.pointer (some ⟨ba0_1c0vc0, 0, none⟩)]]) :: xblk ba0_1c0vc0 25 ([.slice Aa0_1c0vc0v_0 a0_1c0vc0v.To.length ca0_1c0vc0v_0, .int .u64 a0_1c0vc0v.Ends, .bool a0_1c0vc0v.Odd, .int .i64 a0_1c0vc0v.Holes]) :: fs) w) (ha0_1c0vc0v_0 : SlZ (repL (flat (encI .i64)) 1) 1 Z Aa0_1c0vc0v_0 ca0_1c0vc0v_0 a0_1c0vc0v.To) (ha1 : SlZ (flat enc_api_Pick) 3 Z Aa1 ca1 a1) {q0 : List api_Pick} (hp0 : weirref15_Taken.f a0_0 a0_1 a0_1c0vc0v a0_2 a0_3 a1 = some q0) :
    Calls Try.prog 18 #[.agg #[.string a0_0, cond a0_1 (.func (.func 21) #[] #[.pointer (some ⟨ba0_1c0, 0, none⟩), .pointer (some ⟨ba0_1c0vc0, 0, none⟩)]) .nilFunc, cond a0_2 (.func (.func 22) #[] #[.pointer (some ⟨ba0_1c0, 0, none⟩), .pointer (some ⟨ba0_1c0vc0, 0, none⟩)]) .nilFunc, cond a0_3 (.func (.func 23) #[] #[.pointer (some ⟨ba0_1c0, 0, none⟩), .pointer (some ⟨ba0_1c0vc0, 0, none⟩)]) .nilFunc], .slice Aa1 a1.length ca1] w (fun e w' => ∃ (QA0 : Option Addr) (Qc0 : Nat), e = .returned (.slice QA0 q0.length Qc0) ∧ St w0 Z (xrow QA0 Qc0 39 3 (q0.flatMap enc_api_Pick) :: xblk ba0_1c0 53 ([.func (.func 20) #[] #[.pointer (some ⟨ba0_1c0vc0, 0, none⟩)]]) :: xblk ba0_1c0vc0 25 ([.slice Aa0_1c0vc0v_0 a0_1c0vc0v.To.length ca0_1c0vc0v_0, .int .u64 a0_1c0vc0v.Ends, .bool a0_1c0vc0v.Odd, .int .i64 a0_1c0vc0v.Holes]) :: fs) w') := by
  refine calls_abs ?_; intro R hR
  unfold weirref15_Taken.f at hp0
  refine calls_of_runs (fn := Try.f18) (c := cd18 []) Try.func18 (by kernel_rfl) (al := [.agg #[.string a0_0, cond a0_1 (.func (.func 21) #[] #[.pointer (some ⟨ba0_1c0, 0, none⟩), .pointer (some ⟨ba0_1c0vc0, 0, none⟩)]) .nilFunc, cond a0_2 (.func (.func 22) #[] #[.pointer (some ⟨ba0_1c0, 0, none⟩), .pointer (some ⟨ba0_1c0vc0, 0, none⟩)]) .nilFunc, cond a0_3 (.func (.func 23) #[] #[.pointer (some ⟨ba0_1c0, 0, none⟩), .pointer (some ⟨ba0_1c0vc0, 0, none⟩)]) .nilFunc], .slice Aa1 a1.length ca1]) rfl (n := 31) rfl ?_
  refine sx_run 2 (todo' := [.inRegion (opsOf (cd18 [0])) [0, 1], .code (cd18 [1])]) (us := []) (by kernel_rfl) ?_
  refine r_box (c := (cd18 [0])) (i := 0) (d := (some 2)) (ty := 0) (x := (.tmp 0)) (v := .agg #[.string a0_0, cond a0_1 (.func (.func 21) #[] #[.pointer (some ⟨ba0_1c0, 0, none⟩), .pointer (some ⟨ba0_1c0vc0, 0, none⟩)]) .nilFunc, cond a0_2 (.func (.func 22) #[] #[.pointer (some ⟨ba0_1c0, 0, none⟩), .pointer (some ⟨ba0_1c0vc0, 0, none⟩)]) .nilFunc, cond a0_3 (.func (.func 23) #[] #[.pointer (some ⟨ba0_1c0, 0, none⟩), .pointer (some ⟨ba0_1c0vc0, 0, none⟩)]) .nilFunc]) (t := 31) (cs := [.string a0_0, cond a0_1 (.func (.func 21) #[] #[.pointer (some ⟨ba0_1c0, 0, none⟩), .pointer (some ⟨ba0_1c0vc0, 0, none⟩)]) .nilFunc, cond a0_2 (.func (.func 22) #[] #[.pointer (some ⟨ba0_1c0, 0, none⟩), .pointer (some ⟨ba0_1c0vc0, 0, none⟩)]) .nilFunc, cond a0_3 (.func (.func 23) #[] #[.pointer (some ⟨ba0_1c0, 0, none⟩), .pointer (some ⟨ba0_1c0vc0, 0, none⟩)]) .nilFunc]) hS0 (by kernel_rfl) (by kernel_rfl) (by kernel_rfl) (by kernel_rfl) ?_
  intro b1 w2 hS3
  refine sx_run 4 (todo' := [.inRegion (opsOf (cd18 [1, 0])) [0, 1, 2, 3, 4, 5, 6, 7], .code (cd18 [1, 1])]) (us := [(4, .slice none 0 0)]) (by kernel_rfl) ?_
  refine r_load (c := (cd18 [1, 0])) (i := 0) (d := (some 10)) (ty := 31) (t := 31) (x := (.tmp 2)) (p := ⟨b1, 0, none⟩) (v := .agg #[.string a0_0, cond a0_1 (.func (.func 21) #[] #[.pointer (some ⟨ba0_1c0, 0, none⟩), .pointer (some ⟨ba0_1c0vc0, 0, none⟩)]) .nilFunc, cond a0_2 (.func (.func 22) #[] #[.pointer (some ⟨ba0_1c0, 0, none⟩), .pointer (some ⟨ba0_1c0vc0, 0, none⟩)]) .nilFunc, cond a0_3 (.func (.func 23) #[] #[.pointer (some ⟨ba0_1c0, 0, none⟩), .pointer (some ⟨ba0_1c0vc0, 0, none⟩)]) .nilFunc]) (by kernel_rfl) (by kernel_rfl) (by kernel_rfl) (loads_agg (hS3.blk 0 rfl) (by kernel_rfl) (by kernel_rfl)) ?_
  refine sx_run 1 (todo' := [.inRegion (opsOf (cd18 [1, 0])) [2, 3, 4, 5, 6, 7], .code (cd18 [1, 1])]) (us := [(11, .slice Aa1 a1.length ca1)]) (by kernel_rfl) ?_
  obtain ⟨⟨t5, t6⟩, hr11, hp12⟩ := bind_some' hp0
  try dsimp only at hp12
  have hS16 := hS3.pick2
  have hS17 := hS16.pick2
  refine r_call1 (c := (cd18 [1, 0])) (i := 2) (d := (some 12)) (g := 11) (args := #[.agg #[.string a0_0, cond a0_1 (.func (.func 21) #[] #[.pointer (some ⟨ba0_1c0, 0, none⟩), .pointer (some ⟨ba0_1c0vc0, 0, none⟩)]) .nilFunc, cond a0_2 (.func (.func 22) #[] #[.pointer (some ⟨ba0_1c0, 0, none⟩), .pointer (some ⟨ba0_1c0vc0, 0, none⟩)]) .nilFunc, cond a0_3 (.func (.func 23) #[] #[.pointer (some ⟨ba0_1c0, 0, none⟩), .pointer (some ⟨ba0_1c0vc0, 0, none⟩)]) .nilFunc], .slice Aa1 a1.length ca1]) (by kernel_rfl) (by kernel_rfl) (by kernel_rfl) (by kernel_rfl) (weirref15_Replay.ok a0_0 a0_1 (⟨a0_1c0vc0v.To, a0_1c0vc0v.Ends, a0_1c0vc0v.Odd, a0_1c0vc0v.Holes⟩ : weirlaw15_Graph) a0_2 a0_3 a1 ba0_1c0 ba0_1c0vc0 Aa0_1c0vc0v_0 ca0_1c0vc0v_0 Aa1 ca1 hS17 ha0_1c0vc0v_0 ha1 hr11) ?_
  rintro _ w18 ⟨Q7, Q8, Q9, Q10, rfl, hS19⟩
  refine ⟨.tuple #[.slice Q7 t5.length Q8, .slice Q9 t6.length Q10], rfl, ?_⟩
  refine sx_run 17 (todo' := [.code (cd18 [1, 1, 1, 0, 1, 0, 0]), .inLoop (cd18 [1, 1, 1, 0, 1, 0, 0]), .inBlock 0, .code (cd18 [1, 1, 1, 1])]) (us := [(9, .tuple #[.slice Q7 t5.length Q8, .slice Q9 t6.length Q10]), (13, .slice Q7 t5.length Q8), (14, .slice Q9 t6.length Q10), (5, .slice Q7 t5.length Q8), (6, .slice Q9 t6.length Q10), (7, .slice none 0 0), (8, .int .i64 0)]) (by kernel_rfl) ?_
  have hS20 := hS19.drop
  have hS21 := hS20.pick3
  have hS22 := hS21.drop
  obtain ⟨v23, hv24, hp25⟩ := bind_some' hp12
  have J32 : ∀ (t26 : List api_Pick) (he34 : t26 = v23) (l33 : List Value) (A27 : Option Addr) (c28 : Nat) (w30 : World) (hS31 : St w0 Z (xrow A27 c28 39 3 (t26.flatMap enc_api_Pick) :: xblk ba0_1c0 53 ([.func (.func 20) #[] #[.pointer (some ⟨ba0_1c0vc0, 0, none⟩)]]) :: xblk ba0_1c0vc0 25 ([.slice Aa0_1c0vc0v_0 a0_1c0vc0v.To.length ca0_1c0vc0v_0, .int .u64 a0_1c0vc0v.Ends, .bool a0_1c0vc0v.Odd, .int .i64 a0_1c0vc0v.Holes]) :: fs) w30), Runs Try.prog 18 [.code (cd18 [1, 1, 1, 1])] (fill [none, none, none, none, none, none, none, some (.slice A27 t26.length c28), none, none, none, none, none, none, none, none, none, none, none, none, none, none, none, none, none, none, none, none, none, none, none, none, none] l33) w30 R := by
   intro t26 he34 l33 A27 c28 w30 hS31
   subst he34
   try dsimp only at hp25
   refine sx_run 5 (todo' := [.code (cd18 [1, 1, 1, 1, 1])]) (us := [(32, .slice A27 t26.length c28), (4, .slice A27 t26.length c28)]) (by kernel_rfl) ?_
   refine runs_ret (fn := Try.f18) (v := .slice A27 t26.length c28) Try.func18 (by kernel_rfl) ?_
   have hr35 := (Option.some.inj hp25)
   cases hr35
   exact hR _ _ ⟨A27, c28, rfl, hS31⟩
  have L49 : ∀ (t36 : List api_Pick) (t40 : Int) (e44 : (List api_Pick)), weirref15_Taken.l0 a1 t6 t36 t40 = some e44 → e44 = v23 → ∀ (l43 : List Value) (A37 : Option Addr) (c38 : Nat) (w41 : World) (hS42 : St w0 Z (xrow Q9 Q10 4 1 (t6.flatMap encB) :: xrow A37 c38 39 3 (t36.flatMap enc_api_Pick) :: xblk ba0_1c0 53 ([.func (.func 20) #[] #[.pointer (some ⟨ba0_1c0vc0, 0, none⟩)]]) :: xblk ba0_1c0vc0 25 ([.slice Aa0_1c0vc0v_0 a0_1c0vc0v.To.length ca0_1c0vc0v_0, .int .u64 a0_1c0vc0v.Ends, .bool a0_1c0vc0v.Odd, .int .i64 a0_1c0vc0v.Holes]) :: fs) w41), Runs Try.prog 18 [.code (cd18 [1, 1, 1, 0, 1, 0, 0]), .inLoop (cd18 [1, 1, 1, 0, 1, 0, 0]), .inBlock 0, .code (cd18 [1, 1, 1, 1])] (fill [none, some (.slice Aa1 a1.length ca1), none, none, none, none, some (.slice Q9 t6.length Q10), some (.slice A37 t36.length c38), some (.int .i64 t40), none, none, none, none, none, none, none, none, none, none, none, none, none, none, none, none, none, none, none, none, none, none, none, none] l43) w41 R := by
   refine weirref15_Taken.l0.partial_correctness a1 t6 (fun t36 t40 e44 => e44 = v23 → ∀ (l43 : List Value) (A37 : Option Addr) (c38 : Nat) (w41 : World) (hS42 : St w0 Z (xrow Q9 Q10 4 1 (t6.flatMap encB) :: xrow A37 c38 39 3 (t36.flatMap enc_api_Pick) :: xblk ba0_1c0 53 ([.func (.func 20) #[] #[.pointer (some ⟨ba0_1c0vc0, 0, none⟩)]]) :: xblk ba0_1c0vc0 25 ([.slice Aa0_1c0vc0v_0 a0_1c0vc0v.To.length ca0_1c0vc0v_0, .int .u64 a0_1c0vc0v.Ends, .bool a0_1c0vc0v.Odd, .int .i64 a0_1c0vc0v.Holes]) :: fs) w41), Runs Try.prog 18 [.code (cd18 [1, 1, 1, 0, 1, 0, 0]), .inLoop (cd18 [1, 1, 1, 0, 1, 0, 0]), .inBlock 0, .code (cd18 [1, 1, 1, 1])] (fill [none, some (.slice Aa1 a1.length ca1), none, none, none, none, some (.slice Q9 t6.length Q10), some (.slice A37 t36.length c38), some (.int .i64 t40), none, none, none, none, none, none, none, none, none, none, none, none, none, none, none, none, none, none, none, none, none, none, none, none] l43) w41 R) ?_
   intro rec48 ih47 t36 t40 e44 hb46 he45 l43 A37 c38 w41 hS42
   refine sx_split 7 (todo' := [.inRegion (opsOf (cd18 [1, 1, 1, 0, 1, 0, 0, 0, 0])) [], .code (cd18 [1, 1, 1, 0, 1, 0, 0, 0, 1]), .code (cd18 [1, 1, 1, 0, 1, 0, 0, 1]), .inLoop (cd18 [1, 1, 1, 0, 1, 0, 0]), .inBlock 0, .code (cd18 [1, 1, 1, 1])]) (us := [(15, .int .i64 t40), (16, .slice Aa1 a1.length ca1), (17, .int .i64 (a1.length : Int))]) (d := 18) (t := (decide (t40 < (a1.length : Int)))) (by kernel_rfl) (fun h50 => ?_) (fun h51 => ?_)
   ·skip
    have hp52 := ite_t hb46 h50
    refine sx_run 9 (todo' := [.inRegion (opsOf (cd18 [1, 1, 1, 0, 1, 0, 0, 1, 0, 0, 0])) [2, 3], .code (cd18 [1, 1, 1, 0, 1, 0, 0, 1, 0, 0, 1]), .inBlock 1, .code (cd18 [1, 1, 1, 0, 1, 0, 0, 1, 1]), .inLoop (cd18 [1, 1, 1, 0, 1, 0, 0]), .inBlock 0, .code (cd18 [1, 1, 1, 1])]) (us := [(21, .slice Q9 t6.length Q10), (22, .int .i64 t40)]) (by kernel_rfl) ?_
    obtain ⟨g53, hp54⟩ := ite_some hp52
    obtain ⟨b55, p56, hA57, -⟩ := (hS42.row 0 rfl).at_ len_encB (by omega) g53.1 g53.2
    refine r_indexAddr (c := (cd18 [1, 1, 1, 0, 1, 0, 0, 1, 0, 0, 0])) (i := 2) (d := (some 23)) (ty := 0) (t := 41) (e := 4) (n := t6.length) (cp := Q10) (sz := 1) (kk := .i64) (x := (.tmp 21)) (y := (.tmp 22)) (b := b55) (o' := p56) (j := t40) (by kernel_rfl) (by kernel_rfl) (slv (by kernel_rfl) hA57) (by kernel_rfl) (by kernel_rfl) (by kernel_rfl) g53.1 g53.2 ?_
    refine r_load (c := (cd18 [1, 1, 1, 0, 1, 0, 0, 1, 0, 0, 0])) (i := 3) (d := (some 24)) (ty := 4) (t := 4) (x := (.tmp 23)) (p := ⟨b55, p56 + t40.toNat * 1, none⟩) (v := .bool (gt t6 t40)) (by kernel_rfl) (by kernel_rfl) (by kernel_rfl) (loads_at 0 ((hS42.row 0 rfl).at2 hA57 len_encB (by omega) g53.1 g53.2) (by kernel_rfl) (by kernel_rfl)) ?_
    refine r_split (gt t6 t40) (fun h59 => ?_) (fun h60 => ?_)
    ·skip
     have hp61 := ite_t hp54 h59
     refine sx_run 6 (todo' := [.inRegion (opsOf (cd18 [1, 1, 1, 0, 1, 0, 0, 1, 0, 0, 1, 0])) [3, 4, 5, 6, 7], .inBlock 1, .code (cd18 [1, 1, 1, 0, 1, 0, 0, 1, 1]), .inLoop (cd18 [1, 1, 1, 0, 1, 0, 0]), .inBlock 0, .code (cd18 [1, 1, 1, 1])]) (us := [(25, .slice A37 t36.length c38), (26, .slice Aa1 a1.length ca1), (27, .int .i64 t40)]) (by kernel_rfl) ?_
     obtain ⟨g62, hp63⟩ := ite_some hp61
     obtain ⟨b64, p65, hA66, hc67⟩ := ha1.atF g62.1 g62.2
     refine r_indexAddr (c := (cd18 [1, 1, 1, 0, 1, 0, 0, 1, 0, 0, 1, 0])) (i := 3) (d := (some 28)) (ty := 0) (t := 33) (e := 39) (n := a1.length) (cp := ca1) (sz := 3) (kk := .i64) (x := (.tmp 26)) (y := (.tmp 27)) (b := b64) (o' := p65) (j := t40) (by kernel_rfl) (by kernel_rfl) (slv (by kernel_rfl) hA66) (by kernel_rfl) (by kernel_rfl) (by kernel_rfl) g62.1 g62.2 ?_
     refine r_load (c := (cd18 [1, 1, 1, 0, 1, 0, 0, 1, 0, 0, 1, 0])) (i := 4) (d := (some 29)) (ty := 39) (t := 39) (x := (.tmp 28)) (p := ⟨b64, p65 + t40.toNat * 3, none⟩) (v := .agg (enc_api_Pick (gt a1 t40)).toArray) (by kernel_rfl) (by kernel_rfl) (by kernel_rfl) (loads_agg (hc67.cells hS42) (by kernel_rfl) (by kernel_rfl)) ?_
     refine r_lit (c := (cd18 [1, 1, 1, 0, 1, 0, 0, 1, 0, 0, 1, 0])) (i := 5) (d := (some 30)) (ty := 33) (t := 33) (e := 39) (sz := 3) (n := 1) (parts := #[(0, (.tmp 29))]) (vs := [(0, .agg (enc_api_Pick (gt a1 t40)).toArray)]) (z := zeroOf Try.prog 39) (cs' := ([(gt a1 t40)] : List api_Pick).flatMap enc_api_Pick) hS42 (by kernel_rfl) (by kernel_rfl) (by kernel_rfl) (by kernel_rfl) (by kernel_rfl) (by decide) (by decide) (by kernel_rfl) rfl (Parts.cons (c := enc_api_Pick (gt a1 t40)) (by kernel_rfl) (len_api_Pick _) Parts.nil) rfl ?_
     intro b69 w70 hS71
     have hS72 := hS71.pick2
     obtain ⟨g73, hp74⟩ := ite_some hp63
     refine r_append (c := (cd18 [1, 1, 1, 0, 1, 0, 0, 1, 0, 0, 1, 0])) (i := 6) (d := (some 31)) (ty := 33) (enc := enc_api_Pick) (e := 39) (u := 39) (t := 33) (t2 := 33) (sz := 3) (cp := c38) (A := A37) (bytes := 24) (xs := t36) (ys := ([(gt a1 t40)] : List api_Pick)) (s := (.tmp 25)) (x := (.tmp 30)) (xv := .slice (some ⟨b69, 0, none⟩) ([(gt a1 t40)] : List api_Pick).length 1) (info := infoOf Try.prog 39) (z := zeroOf Try.prog 39) (ycs := ([(gt a1 t40)] : List api_Pick).flatMap enc_api_Pick) hS72 (by kernel_rfl) (by kernel_rfl) (by kernel_rfl) (by kernel_rfl) (by kernel_rfl) (.inl (by kernel_rfl)) (by kernel_rfl) (by kernel_rfl) (by kernel_rfl) (by kernel_rfl) (by kernel_rfl) (by omega) len_api_Pick one_api_Pick (src_row (hS72.row 1 rfl) (by omega) len_api_Pick) rfl g73 (by omega) ?_
     intro A75 c76 w77 hS78
     refine sx_run 8 (todo' := [.inLoop (cd18 [1, 1, 1, 0, 1, 0, 0]), .inBlock 0, .code (cd18 [1, 1, 1, 1])]) (us := [(7, .slice A75 (t36 ++ ([(gt a1 t40)] : List api_Pick)).length c76), (19, .int .i64 t40), (20, .int .i64 (IntKind.i64.wrap (t40 + 1))), (8, .int .i64 (IntKind.i64.wrap (t40 + 1)))]) (by kernel_rfl) ?_
     have hS80 := hS78.pick1
     have hS81 := hS80.drop
     have hS82 := hS81.pick3
     have hS83 := hS82.pick3
     have hS84 := hS83.pick2
     have hS85 := hS84.pick3
     refine sx_run 1 (todo' := [.code (cd18 [1, 1, 1, 0, 1, 0, 0]), .inLoop (cd18 [1, 1, 1, 0, 1, 0, 0]), .inBlock 0, .code (cd18 [1, 1, 1, 1])]) (us := []) (by kernel_rfl) ?_
     refine Runs.fill (m := [none, some (.slice Aa1 a1.length ca1), none, none, none, none, some (.slice Q9 t6.length Q10), some (.slice A75 (t36 ++ ([(gt a1 t40)] : List api_Pick)).length c76), some (.int .i64 (IntKind.i64.wrap (t40 + 1))), none, none, none, none, none, none, none, none, none, none, none, none, none, none, none, none, none, none, none, none, none, none, none, none]) (by kernel_rfl) ?_
     exact ih47 (t36 ++ ([(gt a1 t40)] : List api_Pick)) (IntKind.i64.wrap (t40 + 1)) _ hp74 he45 _ A75 c76 _ hS85
    ·skip
     have hp86 := ite_f hp54 h60
     refine sx_run 9 (todo' := [.inLoop (cd18 [1, 1, 1, 0, 1, 0, 0]), .inBlock 0, .code (cd18 [1, 1, 1, 1])]) (us := [(19, .int .i64 t40), (20, .int .i64 (IntKind.i64.wrap (t40 + 1))), (8, .int .i64 (IntKind.i64.wrap (t40 + 1)))]) (by kernel_rfl) ?_
     refine sx_run 1 (todo' := [.code (cd18 [1, 1, 1, 0, 1, 0, 0]), .inLoop (cd18 [1, 1, 1, 0, 1, 0, 0]), .inBlock 0, .code (cd18 [1, 1, 1, 1])]) (us := []) (by kernel_rfl) ?_
     refine Runs.fill (m := [none, some (.slice Aa1 a1.length ca1), none, none, none, none, some (.slice Q9 t6.length Q10), some (.slice A37 t36.length c38), some (.int .i64 (IntKind.i64.wrap (t40 + 1))), none, none, none, none, none, none, none, none, none, none, none, none, none, none, none, none, none, none, none, none, none, none, none, none]) (by kernel_rfl) ?_
     exact ih47 t36 (IntKind.i64.wrap (t40 + 1)) _ hp86 he45 _ A37 c38 _ hS42
   ·skip
    have hp87 := ite_f hb46 h51
    refine sx_run 3 (todo' := [.code (cd18 [1, 1, 1, 1])]) (us := []) (by kernel_rfl) ?_
    have hS88 := hS42.drop
    refine Runs.fill (m := [none, none, none, none, none, none, none, some (.slice A37 t36.length c38), none, none, none, none, none, none, none, none, none, none, none, none, none, none, none, none, none, none, none, none, none, none, none, none, none]) (by kernel_rfl) ?_
    exact J32 t36 ((Option.some.inj hp87).trans he45) _ A37 c38 _ hS88
  have hS90 := hS22.nilrow none 39 3
  have hS91 := hS90.pick3
  have hS92 := hS91.pick3
  have hS93 := hS92.pick2
  have hS94 := hS93.pick3
  refine Runs.fill (m := [none, some (.slice Aa1 a1.length ca1), none, none, none, none, some (.slice Q9 t6.length Q10), some (.slice none 0 0), some (.int .i64 0), none, none, none, none, none, none, none, none, none, none, none, none, none, none, none, none, none, none, none, none, none, none, none, none]) (by kernel_rfl) ?_
  exact L49 [] 0 _ hv24 rfl _ none 0 _ hS94

noncomputable def cd9 (p : List Nat) : Code := sub (bodyOf Try.f9) p
def weirlaw11_SamePicks.l0 (a0 : List api_Pick) (a1 : List api_Pick) (t16 : Int) : Option (Sum Unit Bool) :=
  (if (decide (t16 < (a0.length : Int))) = true then (if 0 ≤ t16 ∧ t16 < (a0.length : Int) then (if 0 ≤ t16 ∧ t16 < (a1.length : Int) then (if (!(decide ((gt a0 t16) = (gt a1 t16)))) = true then some (.inr (false)) else (weirlaw11_SamePicks.l0 a0 a1 (IntKind.i64.wrap (t16 + 1)))) else none) else none) else some (.inl ()))
 partial_fixpoint
def weirlaw11_SamePicks.f (a0 : List api_Pick) (a1 : List api_Pick) : Option Bool :=
  (if ((a0.length : Int) != (a1.length : Int)) = true then some (false) else (weirlaw11_SamePicks.l0 a0 a1 0 >>= (fun | .inl () => some (true) | .inr e => some e)))
set_option maxHeartbeats 16000000 in
theorem weirlaw11_SamePicks.ok (a0 : List api_Pick) (a1 : List api_Pick) (Aa0 : Option Addr) (ca0 : Nat) (Aa1 : Option Addr) (ca1 : Nat) {w0 : World} {Z : Zm} {fs : List XObj} {w : World} (hS0 : St w0 Z (fs) w) (ha0 : SlZ (flat enc_api_Pick) 3 Z Aa0 ca0 a0) (ha1 : SlZ (flat enc_api_Pick) 3 Z Aa1 ca1 a1) {q0 : Bool} (hp0 : weirlaw11_SamePicks.f a0 a1 = some q0) :
    Calls Try.prog 9 #[.slice Aa0 a0.length ca0, .slice Aa1 a1.length ca1] w (fun e w' => e = .returned (.bool q0) ∧ St w0 Z (fs) w') := by
  refine calls_abs ?_; intro R hR
  unfold weirlaw11_SamePicks.f at hp0
  refine calls_of_runs (fn := Try.f9) (c := cd9 []) Try.func9 (by kernel_rfl) (al := [.slice Aa0 a0.length ca0, .slice Aa1 a1.length ca1]) rfl (n := 24) rfl ?_
  refine sx_split 12 (todo' := [.inRegion (opsOf (cd9 [1, 0, 0])) [], .code (cd9 [1, 0, 1]), .code (cd9 [1, 1])]) (us := [(4, .bool false), (6, .slice Aa0 a0.length ca0), (7, .int .i64 (a0.length : Int)), (8, .slice Aa1 a1.length ca1), (9, .int .i64 (a1.length : Int))]) (d := 10) (t := ((a0.length : Int) != (a1.length : Int))) (by kernel_rfl) (fun h1 => ?_) (fun h2 => ?_)
  ·skip
   have hp3 := ite_t hp0 h1
   refine sx_run 6 (todo' := [.code (cd9 [1, 0, 1, 0, 1]), .code (cd9 [1, 1])]) (us := [(4, .bool false)]) (by kernel_rfl) ?_
   refine runs_ret (fn := Try.f9) (v := .bool false) Try.func9 (by kernel_rfl) ?_
   have hr4 := (Option.some.inj hp3)
   cases hr4
   exact hR _ _ ⟨rfl, hS0⟩
  ·skip
   have hp5 := ite_f hp0 h2
   refine sx_run 10 (todo' := [.code (cd9 [1, 1, 0, 1, 0, 0]), .inLoop (cd9 [1, 1, 0, 1, 0, 0]), .inBlock 0, .code (cd9 [1, 1, 1])]) (us := [(5, .int .i64 0)]) (by kernel_rfl) ?_
   obtain ⟨v6, hv7, hp8⟩ := bind_some' hp5
   have hq11 : ∀ x, Sum.inr x = v6 → x = q0 := by intro x hx; subst hx; simpa using hp8
   have J12 : ∀ (he14 : Sum.inl () = v6) (l13 : List Value) (w9 : World) (hS10 : St w0 Z (fs) w9), Runs Try.prog 9 [.code (cd9 [1, 1, 1])] (fill [none, none, none, none, none, none, none, none, none, none, none, none, none, none, none, none, none, none, none, none, none, none, none, none, none, none] l13) w9 R := by
    intro he14 l13 w9 hS10
    subst he14
    try dsimp only at hp8
    refine sx_run 4 (todo' := [.code (cd9 [1, 1, 1, 1])]) (us := [(4, .bool true)]) (by kernel_rfl) ?_
    refine runs_ret (fn := Try.f9) (v := .bool true) Try.func9 (by kernel_rfl) ?_
    have hr15 := (Option.some.inj hp8)
    cases hr15
    exact hR _ _ ⟨rfl, hS10⟩
   have L25 : ∀ (t16 : Int) (e20 : Sum Unit Bool), weirlaw11_SamePicks.l0 a0 a1 t16 = some e20 → e20 = v6 → ∀ (l19 : List Value) (w17 : World) (hS18 : St w0 Z (fs) w17), Runs Try.prog 9 [.code (cd9 [1, 1, 0, 1, 0, 0]), .inLoop (cd9 [1, 1, 0, 1, 0, 0]), .inBlock 0, .code (cd9 [1, 1, 1])] (fill [some (.slice Aa0 a0.length ca0), some (.slice Aa1 a1.length ca1), none, none, none, some (.int .i64 t16), none, none, none, none, none, none, none, none, none, none, none, none, none, none, none, none, none, none, none, none] l19) w17 R := by
    refine weirlaw11_SamePicks.l0.partial_correctness a0 a1 (fun t16 e20 => e20 = v6 → ∀ (l19 : List Value) (w17 : World) (hS18 : St w0 Z (fs) w17), Runs Try.prog 9 [.code (cd9 [1, 1, 0, 1, 0, 0]), .inLoop (cd9 [1, 1, 0, 1, 0, 0]), .inBlock 0, .code (cd9 [1, 1, 1])] (fill [some (.slice Aa0 a0.length ca0), some (.slice Aa1 a1.length ca1), none, none, none, some (.int .i64 t16), none, none, none, none, none, none, none, none, none, none, none, none, none, none, none, none, none, none, none, none] l19) w17 R) ?_
    intro rec24 ih23 t16 e20 hb22 he21 l19 w17 hS18
    have hq26 : ∀ x, Sum.inr x = e20 → x = q0 := fun x hx => hq11 x (hx.trans he21)
    refine sx_split 7 (todo' := [.inRegion (opsOf (cd9 [1, 1, 0, 1, 0, 0, 0, 0])) [], .code (cd9 [1, 1, 0, 1, 0, 0, 0, 1]), .code (cd9 [1, 1, 0, 1, 0, 0, 1]), .inLoop (cd9 [1, 1, 0, 1, 0, 0]), .inBlock 0, .code (cd9 [1, 1, 1])]) (us := [(11, .int .i64 t16), (12, .slice Aa0 a0.length ca0), (13, .int .i64 (a0.length : Int))]) (d := 14) (t := (decide (t16 < (a0.length : Int)))) (by kernel_rfl) (fun h27 => ?_) (fun h28 => ?_)
    ·skip
     have hp29 := ite_t hb22 h27
     refine sx_run 6 (todo' := [.code (cd9 [1, 1, 0, 1, 0, 0, 1, 0, 0, 0]), .code (cd9 [1, 1, 0, 1, 0, 0, 1, 0, 0, 1]), .inBlock 1, .code (cd9 [1, 1, 0, 1, 0, 0, 1, 1]), .inLoop (cd9 [1, 1, 0, 1, 0, 0]), .inBlock 0, .code (cd9 [1, 1, 1])]) (us := []) (by kernel_rfl) ?_
     refine r_quiet hS18 (c := (cd9 [1, 1, 0, 1, 0, 0, 1, 0, 0, 0])) (id := 6) (by kernel_rfl) (by kernel_rfl) (by kernel_rfl) (is := [0, 1, 2, 3, 4, 5, 6, 7, 8]) (by kernel_rfl) ?_
     refine q_run 2 (is' := [2, 3, 4, 5, 6, 7, 8]) (us := [(17, .slice Aa0 a0.length ca0), (18, .int .i64 t16)]) (by kernel_rfl) ?_
     obtain ⟨g30, hp31⟩ := ite_some hp29
     obtain ⟨b32, p33, hA34, hc35⟩ := ha0.atF g30.1 g30.2
     refine q_indexAddr (c := (cd9 [1, 1, 0, 1, 0, 0, 1, 0, 0, 0])) (i := 2) (d := (some 19)) (ty := 0) (t := 33) (e := 39) (n := a0.length) (cp := ca0) (sz := 3) (kk := .i64) (x := (.tmp 17)) (y := (.tmp 18)) (b := b32) (o' := p33) (j := t16) (by kernel_rfl) (by kernel_rfl) (slv (by kernel_rfl) hA34) (by kernel_rfl) (by kernel_rfl) (by kernel_rfl) g30.1 g30.2 ?_
     refine q_load (c := (cd9 [1, 1, 0, 1, 0, 0, 1, 0, 0, 0])) (i := 3) (d := (some 20)) (ty := 39) (t := 39) (x := (.tmp 19)) (p := ⟨b32, p33 + t16.toNat * 3, none⟩) (v := .agg (enc_api_Pick (gt a0 t16)).toArray) (by kernel_rfl) (by kernel_rfl) (by kernel_rfl) (fun w hC => (loads_agg (hc35.cells hC) (by kernel_rfl) (by kernel_rfl))) ?_
     refine q_run 2 (is' := [6, 7, 8]) (us := [(21, .slice Aa1 a1.length ca1), (22, .int .i64 t16)]) (by kernel_rfl) ?_
     obtain ⟨g36, hp37⟩ := ite_some hp31
     obtain ⟨b38, p39, hA40, hc41⟩ := ha1.atF g36.1 g36.2
     refine q_indexAddr (c := (cd9 [1, 1, 0, 1, 0, 0, 1, 0, 0, 0])) (i := 6) (d := (some 23)) (ty := 0) (t := 33) (e := 39) (n := a1.length) (cp := ca1) (sz := 3) (kk := .i64) (x := (.tmp 21)) (y := (.tmp 22)) (b := b38) (o' := p39) (j := t16) (by kernel_rfl) (by kernel_rfl) (slv (by kernel_rfl) hA40) (by kernel_rfl) (by kernel_rfl) (by kernel_rfl) g36.1 g36.2 ?_
     refine q_load (c := (cd9 [1, 1, 0, 1, 0, 0, 1, 0, 0, 0])) (i := 7) (d := (some 24)) (ty := 39) (t := 39) (x := (.tmp 23)) (p := ⟨b38, p39 + t16.toNat * 3, none⟩) (v := .agg (enc_api_Pick (gt a1 t16)).toArray) (by kernel_rfl) (by kernel_rfl) (by kernel_rfl) (fun w hC => (loads_agg (hc41.cells hC) (by kernel_rfl) (by kernel_rfl))) ?_
     refine q_val (c := (cd9 [1, 1, 0, 1, 0, 0, 1, 0, 0, 0])) (i := 8) (d := (some 25)) (ty := 4) (op := .binOp .neq 39 (.tmp 20) (.tmp 24) 39) (v := .bool (!(decide ((gt a0 t16) = (gt a1 t16))))) (by kernel_rfl) (by kernel_rfl) (fun w hC o ho _ => x_neq_api_Pick (by kernel_rfl) (by kernel_rfl) ho) ?_
     refine q_split (!(decide ((gt a0 t16) = (gt a1 t16)))) (fun h42 => ?_) (fun h43 => ?_)
     ·skip
      have hp44 := ite_t hp37 h42
      refine Qs.nil ?_
      intro w45 hS46
      refine sx_run 5 (todo' := [.code (cd9 [1, 1, 0, 1, 0, 0, 1, 0, 0, 1, 0, 1]), .inBlock 1, .code (cd9 [1, 1, 0, 1, 0, 0, 1, 1]), .inLoop (cd9 [1, 1, 0, 1, 0, 0]), .inBlock 0, .code (cd9 [1, 1, 1])]) (us := [(4, .bool false)]) (by kernel_rfl) ?_
      refine runs_ret (fn := Try.f9) (v := .bool false) Try.func9 (by kernel_rfl) ?_
      have hr47 := (hq26 _ (Option.some.inj hp44))
      cases hr47
      exact hR _ _ ⟨rfl, hS46⟩
     ·skip
      have hp48 := ite_f hp37 h43
      refine Qs.nil ?_
      intro w49 hS50
      refine sx_run 8 (todo' := [.inLoop (cd9 [1, 1, 0, 1, 0, 0]), .inBlock 0, .code (cd9 [1, 1, 1])]) (us := [(15, .int .i64 t16), (16, .int .i64 (IntKind.i64.wrap (t16 + 1))), (5, .int .i64 (IntKind.i64.wrap (t16 + 1)))]) (by kernel_rfl) ?_
      refine sx_run 1 (todo' := [.code (cd9 [1, 1, 0, 1, 0, 0]), .inLoop (cd9 [1, 1, 0, 1, 0, 0]), .inBlock 0, .code (cd9 [1, 1, 1])]) (us := []) (by kernel_rfl) ?_
      refine Runs.fill (m := [some (.slice Aa0 a0.length ca0), some (.slice Aa1 a1.length ca1), none, none, none, some (.int .i64 (IntKind.i64.wrap (t16 + 1))), none, none, none, none, none, none, none, none, none, none, none, none, none, none, none, none, none, none, none, none]) (by kernel_rfl) ?_
      exact ih23 (IntKind.i64.wrap (t16 + 1)) _ hp48 he21 _ _ hS50
    ·skip
     have hp51 := ite_f hb22 h28
     refine sx_run 3 (todo' := [.code (cd9 [1, 1, 1])]) (us := []) (by kernel_rfl) ?_
     refine Runs.fill (m := [none, none, none, none, none, none, none, none, none, none, none, none, none, none, none, none, none, none, none, none, none, none, none, none, none, none]) (by kernel_rfl) ?_
     exact J12 ((Option.some.inj hp51).trans he21) _ _ hS18
   refine Runs.fill (m := [some (.slice Aa0 a0.length ca0), some (.slice Aa1 a1.length ca1), none, none, none, some (.int .i64 0), none, none, none, none, none, none, none, none, none, none, none, none, none, none, none, none, none, none, none, none]) (by kernel_rfl) ?_
   exact L25 0 _ hv7 rfl _ _ hS0

noncomputable def cd19 (p : List Nat) : Code := sub (bodyOf Try.f19) p
def weirref15_Straight.l1 (t58 : List ByteArray) (t62 : Int) (t160 : Int) (t161 : Int) : Option Int :=
  (if (decide (t161 < (t58.length : Int))) = true then (if 0 ≤ t161 ∧ t161 < (t58.length : Int) then (if 0 ≤ t62 ∧ t62 < (t58.length : Int) then (if (seq (gt t58 t161) (gt t58 t62)) = true then (weirref15_Straight.l1 t58 t62 t161 (IntKind.i64.wrap (t161 + 1))) else (weirref15_Straight.l1 t58 t62 t160 (IntKind.i64.wrap (t161 + 1)))) else none) else none) else some (t160))
 partial_fixpoint
def weirref15_Straight.l0 (t54 : List api_Pick) (t58 : List ByteArray) (t62 : Int) : Option (List api_Pick) :=
  (if (decide (t62 < (t58.length : Int))) = true then (weirref15_Straight.l1 t58 t62 t62 (IntKind.i64.wrap (t62 + 1)) >>= (fun t78 => (if (decide (t78 > t62)) = true then (if 0 ≤ t62 ∧ t62 ≤ (t58.length : Int) then (if (([] : List ByteArray).length + (t58.take t62.toNat).length) * 16 ≤ 140737488355328 then (if 0 ≤ t78 ∧ t78 ≤ (t58.length : Int) then (if ((([] : List ByteArray) ++ (t58.take t62.toNat)).length + ((t58.drop t78.toNat).take (t58.length - t78.toNat)).length) * 16 ≤ 140737488355328 then (if 0 ≤ t62 ∧ t62 ≤ (t54.length : Int) then (if (([] : List api_Pick).length + (t54.take t62.toNat).length) * 24 ≤ 140737488355328 then (if 0 ≤ t78 ∧ t78 ≤ (t54.length : Int) then (if ((([] : List api_Pick) ++ (t54.take t62.toNat)).length + ((t54.drop t78.toNat).take (t54.length - t78.toNat)).length) * 24 ≤ 140737488355328 then (weirref15_Straight.l0 ((([] : List api_Pick) ++ (t54.take t62.toNat)) ++ ((t54.drop t78.toNat).take (t54.length - t78.toNat))) ((([] : List ByteArray) ++ (t58.take t62.toNat)) ++ ((t58.drop t78.toNat).take (t58.length - t78.toNat))) (IntKind.i64.wrap (t62 + 1))) else none) else none) else none) else none) else none) else none) else none) else none) else (weirref15_Straight.l0 t54 t58 (IntKind.i64.wrap (t62 + 1)))))) else some (t54))
 partial_fixpoint
def weirref15_Straight.f (a0_0 : ByteArray) (a0_1 : Bool) (a0_1c0vc0v : weirlaw15_Graph) (a0_2 : Bool) (a0_3 : Bool) (a1 : List api_Pick) : Option (List api_Pick) :=
  (weirref15_Taken.f a0_0 a0_1 (⟨a0_1c0vc0v.To, a0_1c0vc0v.Ends, a0_1c0vc0v.Odd, a0_1c0vc0v.Holes⟩ : weirlaw15_Graph) a0_2 a0_3 a1 >>= (fun t5 => (weirref15_Replay.f a0_0 a0_1 (⟨a0_1c0vc0v.To, a0_1c0vc0v.Ends, a0_1c0vc0v.Odd, a0_1c0vc0v.Holes⟩ : weirlaw15_Graph) a0_2 a0_3 t5 >>= (fun (t16, t17) => (weirref15_Straight.l0 t5 t16 0 >>= (fun t44 => some (t44)))))))
set_option maxHeartbeats 16000000 in
theorem weirref15_Straight.ok (a0_0 : ByteArray) (a0_1 : Bool) (a0_1c0vc0v : weirlaw15_Graph) (a0_2 : Bool) (a0_3 : Bool) (a1 : List api_Pick) (ba0_1c0 : Nat) (ba0_1c0vc0 : Nat) (Aa0_1c0vc0v_0 : Option Addr) (ca0_1c0vc0v_0 : Nat) (Aa1 : Option Addr) (ca1 : Nat) {w0 : World} {Z : Zm} {fs : List XObj} {w : World} (hS0 : St w0 Z (xblk ba0_1c0 53 ([.func (.func 20) #[] #[.pointer (some ⟨ba0_1c0vc0, 0, none⟩)]]) :: xblk ba0_1c0vc0 25 ([.slice Aa0_1c0vc0v_0 a0_1c0vc0v.To.length ca0_1c0vc0v_0, .int .u64 a0_1c0vc0v.Ends, .bool a0_1c0vc0v.Odd, .int .i64 a0_1c0vc0v.Holes]) :: fs) w) (ha0_1c0vc0v_0 : SlZ (repL (flat (encI .i64)) 1) 1 Z Aa0_1c0vc0v_0 ca0_1c0vc0v_0 a0_1c0vc0v.To) (ha1 : SlZ (flat enc_api_Pick) 3 Z Aa1 ca1 a1) {q0 : List api_Pick} (hp0 : weirref15_Straight.f a0_0 a0_1 a0_1c0vc0v a0_2 a0_3 a1 = some q0) :
    Calls Try.prog 19 #[.agg #[.string a0_0, cond a0_1 (.func (.func 21) #[] #[.pointer (some ⟨ba0_1c0, 0, none⟩), .pointer (some ⟨ba0_1c0vc0, 0, none⟩)]) .nilFunc, cond a0_2 (.func (.func 22) #[] #[.pointer (some ⟨ba0_1c0, 0, none⟩), .pointer (some ⟨ba0_1c0vc0, 0, none⟩)]) .nilFunc, cond a0_3 (.func (.func 23) #[] #[.pointer (some ⟨ba0_1c0, 0, none⟩), .pointer (some ⟨ba0_1c0vc0, 0, none⟩)]) .nilFunc], .slice Aa1 a1.length ca1] w (fun e w' => ∃ (QA0 : Option Addr) (Qc0 : Nat), e = .returned (.slice QA0 q0.length Qc0) ∧ St w0 Z (xrow QA0 Qc0 39 3 (q0.flatMap enc_api_Pick) :: xblk ba0_1c0 53 ([.func (.func 20) #[] #[.pointer (some ⟨ba0_1c0vc0, 0, none⟩)]]) :: xblk ba0_1c0vc0 25 ([.slice Aa0_1c0vc0v_0 a0_1c0vc0v.To.length ca0_1c0vc0v_0, .int .u64 a0_1c0vc0v.Ends, .bool a0_1c0vc0v.Odd, .int .i64 a0_1c0vc0v.Holes]) :: fs) w') := by
  refine calls_abs ?_; intro R hR
  unfold weirref15_Straight.f at hp0
  refine calls_of_runs (fn := Try.f19) (c := cd19 []) Try.func19 (by kernel_rfl) (al := [.agg #[.string a0_0, cond a0_1 (.func (.func 21) #[] #[.pointer (some ⟨ba0_1c0, 0, none⟩), .pointer (some ⟨ba0_1c0vc0, 0, none⟩)]) .nilFunc, cond a0_2 (.func (.func 22) #[] #[.pointer (some ⟨ba0_1c0, 0, none⟩), .pointer (some ⟨ba0_1c0vc0, 0, none⟩)]) .nilFunc, cond a0_3 (.func (.func 23) #[] #[.pointer (some ⟨ba0_1c0, 0, none⟩), .pointer (some ⟨ba0_1c0vc0, 0, none⟩)]) .nilFunc], .slice Aa1 a1.length ca1]) rfl (n := 64) rfl ?_
  refine sx_run 2 (todo' := [.inRegion (opsOf (cd19 [0])) [0, 1], .code (cd19 [1])]) (us := []) (by kernel_rfl) ?_
  refine r_box (c := (cd19 [0])) (i := 0) (d := (some 2)) (ty := 0) (x := (.tmp 0)) (v := .agg #[.string a0_0, cond a0_1 (.func (.func 21) #[] #[.pointer (some ⟨ba0_1c0, 0, none⟩), .pointer (some ⟨ba0_1c0vc0, 0, none⟩)]) .nilFunc, cond a0_2 (.func (.func 22) #[] #[.pointer (some ⟨ba0_1c0, 0, none⟩), .pointer (some ⟨ba0_1c0vc0, 0, none⟩)]) .nilFunc, cond a0_3 (.func (.func 23) #[] #[.pointer (some ⟨ba0_1c0, 0, none⟩), .pointer (some ⟨ba0_1c0vc0, 0, none⟩)]) .nilFunc]) (t := 31) (cs := [.string a0_0, cond a0_1 (.func (.func 21) #[] #[.pointer (some ⟨ba0_1c0, 0, none⟩), .pointer (some ⟨ba0_1c0vc0, 0, none⟩)]) .nilFunc, cond a0_2 (.func (.func 22) #[] #[.pointer (some ⟨ba0_1c0, 0, none⟩), .pointer (some ⟨ba0_1c0vc0, 0, none⟩)]) .nilFunc, cond a0_3 (.func (.func 23) #[] #[.pointer (some ⟨ba0_1c0, 0, none⟩), .pointer (some ⟨ba0_1c0vc0, 0, none⟩)]) .nilFunc]) hS0 (by kernel_rfl) (by kernel_rfl) (by kernel_rfl) (by kernel_rfl) ?_
  intro b1 w2 hS3
  refine sx_run 4 (todo' := [.inRegion (opsOf (cd19 [1, 0])) [0, 1, 2, 3], .code (cd19 [1, 1])]) (us := [(4, .slice none 0 0)]) (by kernel_rfl) ?_
  refine r_load (c := (cd19 [1, 0])) (i := 0) (d := (some 10)) (ty := 31) (t := 31) (x := (.tmp 2)) (p := ⟨b1, 0, none⟩) (v := .agg #[.string a0_0, cond a0_1 (.func (.func 21) #[] #[.pointer (some ⟨ba0_1c0, 0, none⟩), .pointer (some ⟨ba0_1c0vc0, 0, none⟩)]) .nilFunc, cond a0_2 (.func (.func 22) #[] #[.pointer (some ⟨ba0_1c0, 0, none⟩), .pointer (some ⟨ba0_1c0vc0, 0, none⟩)]) .nilFunc, cond a0_3 (.func (.func 23) #[] #[.pointer (some ⟨ba0_1c0, 0, none⟩), .pointer (some ⟨ba0_1c0vc0, 0, none⟩)]) .nilFunc]) (by kernel_rfl) (by kernel_rfl) (by kernel_rfl) (loads_agg (hS3.blk 0 rfl) (by kernel_rfl) (by kernel_rfl)) ?_
  refine sx_run 1 (todo' := [.inRegion (opsOf (cd19 [1, 0])) [2, 3], .code (cd19 [1, 1])]) (us := [(11, .slice Aa1 a1.length ca1)]) (by kernel_rfl) ?_
  obtain ⟨t5, hr8, hp9⟩ := bind_some' hp0
  have hS12 := hS3.pick2
  have hS13 := hS12.pick2
  refine r_call1 (c := (cd19 [1, 0])) (i := 2) (d := (some 12)) (g := 18) (args := #[.agg #[.string a0_0, cond a0_1 (.func (.func 21) #[] #[.pointer (some ⟨ba0_1c0, 0, none⟩), .pointer (some ⟨ba0_1c0vc0, 0, none⟩)]) .nilFunc, cond a0_2 (.func (.func 22) #[] #[.pointer (some ⟨ba0_1c0, 0, none⟩), .pointer (some ⟨ba0_1c0vc0, 0, none⟩)]) .nilFunc, cond a0_3 (.func (.func 23) #[] #[.pointer (some ⟨ba0_1c0, 0, none⟩), .pointer (some ⟨ba0_1c0vc0, 0, none⟩)]) .nilFunc], .slice Aa1 a1.length ca1]) (by kernel_rfl) (by kernel_rfl) (by kernel_rfl) (by kernel_rfl) (weirref15_Taken.ok a0_0 a0_1 (⟨a0_1c0vc0v.To, a0_1c0vc0v.Ends, a0_1c0vc0v.Odd, a0_1c0vc0v.Holes⟩ : weirlaw15_Graph) a0_2 a0_3 a1 ba0_1c0 ba0_1c0vc0 Aa0_1c0vc0v_0 ca0_1c0vc0v_0 Aa1 ca1 hS13 ha0_1c0vc0v_0 ha1 hr8) ?_
  rintro _ w14 ⟨Q6, Q7, rfl, hS15⟩
  refine ⟨.slice Q6 t5.length Q7, rfl, ?_⟩
  refine sx_run 4 (todo' := [.inRegion (opsOf (cd19 [1, 1, 0])) [0, 1, 2, 3, 4, 5, 6, 7], .code (cd19 [1, 1, 1])]) (us := [(1, .slice Q6 t5.length Q7)]) (by kernel_rfl) ?_
  refine r_load (c := (cd19 [1, 1, 0])) (i := 0) (d := (some 14)) (ty := 31) (t := 31) (x := (.tmp 2)) (p := ⟨b1, 0, none⟩) (v := .agg #[.string a0_0, cond a0_1 (.func (.func 21) #[] #[.pointer (some ⟨ba0_1c0, 0, none⟩), .pointer (some ⟨ba0_1c0vc0, 0, none⟩)]) .nilFunc, cond a0_2 (.func (.func 22) #[] #[.pointer (some ⟨ba0_1c0, 0, none⟩), .pointer (some ⟨ba0_1c0vc0, 0, none⟩)]) .nilFunc, cond a0_3 (.func (.func 23) #[] #[.pointer (some ⟨ba0_1c0, 0, none⟩), .pointer (some ⟨ba0_1c0vc0, 0, none⟩)]) .nilFunc]) (by kernel_rfl) (by kernel_rfl) (by kernel_rfl) (loads_agg (hS15.blk 3 rfl) (by kernel_rfl) (by kernel_rfl)) ?_
  refine sx_run 1 (todo' := [.inRegion (opsOf (cd19 [1, 1, 0])) [2, 3, 4, 5, 6, 7], .code (cd19 [1, 1, 1])]) (us := [(15, .slice Q6 t5.length Q7)]) (by kernel_rfl) ?_
  obtain ⟨⟨t16, t17⟩, hr22, hp23⟩ := bind_some' hp9
  try dsimp only at hp23
  obtain ⟨Z27, hz28, hS29, hs30, hb31⟩ := hS15.lendrow len_api_Pick (by omega)
  have hS32 := hS29.pick1
  have hS33 := hS32.pick1
  refine r_call1 (c := (cd19 [1, 1, 0])) (i := 2) (d := (some 16)) (g := 11) (args := #[.agg #[.string a0_0, cond a0_1 (.func (.func 21) #[] #[.pointer (some ⟨ba0_1c0, 0, none⟩), .pointer (some ⟨ba0_1c0vc0, 0, none⟩)]) .nilFunc, cond a0_2 (.func (.func 22) #[] #[.pointer (some ⟨ba0_1c0, 0, none⟩), .pointer (some ⟨ba0_1c0vc0, 0, none⟩)]) .nilFunc, cond a0_3 (.func (.func 23) #[] #[.pointer (some ⟨ba0_1c0, 0, none⟩), .pointer (some ⟨ba0_1c0vc0, 0, none⟩)]) .nilFunc], .slice Q6 t5.length Q7]) (by kernel_rfl) (by kernel_rfl) (by kernel_rfl) (by kernel_rfl) (weirref15_Replay.ok a0_0 a0_1 (⟨a0_1c0vc0v.To, a0_1c0vc0v.Ends, a0_1c0vc0v.Odd, a0_1c0vc0v.Holes⟩ : weirlaw15_Graph) a0_2 a0_3 t5 ba0_1c0 ba0_1c0vc0 Aa0_1c0vc0v_0 ca0_1c0vc0v_0 Q6 Q7 hS33 (SlZ.mono (mono_repL (mono_flat _)) ha0_1c0vc0v_0 hz28) hs30 hr22) ?_
  rintro _ w34 ⟨Q18, Q19, Q20, Q21, rfl, hS35⟩
  refine ⟨.tuple #[.slice Q18 t16.length Q19, .slice Q20 t17.length Q21], rfl, ?_⟩
  have hS36 := hb31 _ _ hS35
  refine sx_run 13 (todo' := [.code (cd19 [1, 1, 1, 0, 1, 0, 0]), .inLoop (cd19 [1, 1, 1, 0, 1, 0, 0]), .inBlock 0, .code (cd19 [1, 1, 1, 1])]) (us := [(13, .tuple #[.slice Q18 t16.length Q19, .slice Q20 t17.length Q21]), (17, .slice Q18 t16.length Q19), (18, .slice Q20 t17.length Q21), (5, .slice Q18 t16.length Q19), (6, .slice Q20 t17.length Q21), (7, .int .i64 0)]) (by kernel_rfl) ?_
  have hS37 := hS36.pick2
  have hS38 := hS37.drop
  have hS39 := hS38.pick4
  have hS40 := hS39.drop
  obtain ⟨v41, hv42, hp43⟩ := bind_some' hp23
  have J50 : ∀ (t44 : List api_Pick) (he52 : t44 = v41) (l51 : List Value) (A45 : Option Addr) (c46 : Nat) (w48 : World) (hS49 : St w0 Z (xrow A45 c46 39 3 (t44.flatMap enc_api_Pick) :: xblk ba0_1c0 53 ([.func (.func 20) #[] #[.pointer (some ⟨ba0_1c0vc0, 0, none⟩)]]) :: xblk ba0_1c0vc0 25 ([.slice Aa0_1c0vc0v_0 a0_1c0vc0v.To.length ca0_1c0vc0v_0, .int .u64 a0_1c0vc0v.Ends, .bool a0_1c0vc0v.Odd, .int .i64 a0_1c0vc0v.Holes]) :: fs) w48), Runs Try.prog 19 [.code (cd19 [1, 1, 1, 1])] (fill [none, some (.slice A45 t44.length c46), none, none, none, none, none, none, none, none, none, none, none, none, none, none, none, none, none, none, none, none, none, none, none, none, none, none, none, none, none, none, none, none, none, none, none, none, none, none, none, none, none, none, none, none, none, none, none, none, none, none, none, none, none, none, none, none, none, none, none, none, none, none, none, none] l51) w48 R := by
   intro t44 he52 l51 A45 c46 w48 hS49
   subst he52
   try dsimp only at hp43
   refine sx_run 5 (todo' := [.code (cd19 [1, 1, 1, 1, 1])]) (us := [(65, .slice A45 t44.length c46), (4, .slice A45 t44.length c46)]) (by kernel_rfl) ?_
   refine runs_ret (fn := Try.f19) (v := .slice A45 t44.length c46) Try.func19 (by kernel_rfl) ?_
   have hr53 := (Option.some.inj hp43)
   cases hr53
   exact hR _ _ ⟨A45, c46, rfl, hS49⟩
  have L71 : ∀ (t54 : List api_Pick) (t58 : List ByteArray) (t62 : Int) (e66 : (List api_Pick)), weirref15_Straight.l0 t54 t58 t62 = some e66 → e66 = v41 → ∀ (l65 : List Value) (A55 : Option Addr) (c56 : Nat) (A59 : Option Addr) (c60 : Nat) (w63 : World) (hS64 : St w0 Z (xrow A55 c56 39 3 (t54.flatMap enc_api_Pick) :: xrow A59 c60 9 1 (t58.flatMap encS) :: xblk ba0_1c0 53 ([.func (.func 20) #[] #[.pointer (some ⟨ba0_1c0vc0, 0, none⟩)]]) :: xblk ba0_1c0vc0 25 ([.slice Aa0_1c0vc0v_0 a0_1c0vc0v.To.length ca0_1c0vc0v_0, .int .u64 a0_1c0vc0v.Ends, .bool a0_1c0vc0v.Odd, .int .i64 a0_1c0vc0v.Holes]) :: fs) w63), Runs Try.prog 19 [.code (cd19 [1, 1, 1, 0, 1, 0, 0]), .inLoop (cd19 [1, 1, 1, 0, 1, 0, 0]), .inBlock 0, .code (cd19 [1, 1, 1, 1])] (fill [none, some (.slice A55 t54.length c56), none, none, none, some (.slice A59 t58.length c60), none, some (.int .i64 t62), none, none, none, none, none, none, none, none, none, none, none, none, none, none, none, none, none, none, none, none, none, none, none, none, none, none, none, none, none, none, none, none, none, none, none, none, none, none, none, none, none, none, none, none, none, none, none, none, none, none, none, none, none, none, none, none, none, none] l65) w63 R := by
   refine weirref15_Straight.l0.partial_correctness (fun t54 t58 t62 e66 => e66 = v41 → ∀ (l65 : List Value) (A55 : Option Addr) (c56 : Nat) (A59 : Option Addr) (c60 : Nat) (w63 : World) (hS64 : St w0 Z (xrow A55 c56 39 3 (t54.flatMap enc_api_Pick) :: xrow A59 c60 9 1 (t58.flatMap encS) :: xblk ba0_1c0 53 ([.func (.func 20) #[] #[.pointer (some ⟨ba0_1c0vc0, 0, none⟩)]]) :: xblk ba0_1c0vc0 25 ([.slice Aa0_1c0vc0v_0 a0_1c0vc0v.To.length ca0_1c0vc0v_0, .int .u64 a0_1c0vc0v.Ends, .bool a0_1c0vc0v.Odd, .int .i64 a0_1c0vc0v.Holes]) :: fs) w63), Runs Try.prog 19 [.code (cd19 [1, 1, 1, 0, 1, 0, 0]), .inLoop (cd19 [1, 1, 1, 0, 1, 0, 0]), .inBlock 0, .code (cd19 [1, 1, 1, 1])] (fill [none, some (.slice A55 t54.length c56), none, none, none, some (.slice A59 t58.length c60), none, some (.int .i64 t62), none, none, none, none, none, none, none, none, none, none, none, none, none, none, none, none, none, none, none, none, none, none, none, none, none, none, none, none, none, none, none, none, none, none, none, none, none, none, none, none, none, none, none, none, none, none, none, none, none, none, none, none, none, none, none, none, none, none] l65) w63 R) ?_
   intro rec70 ih69 t54 t58 t62 e66 hb68 he67 l65 A55 c56 A59 c60 w63 hS64
   refine sx_split 7 (todo' := [.inRegion (opsOf (cd19 [1, 1, 1, 0, 1, 0, 0, 0, 0])) [], .code (cd19 [1, 1, 1, 0, 1, 0, 0, 0, 1]), .code (cd19 [1, 1, 1, 0, 1, 0, 0, 1]), .inLoop (cd19 [1, 1, 1, 0, 1, 0, 0]), .inBlock 0, .code (cd19 [1, 1, 1, 1])]) (us := [(19, .int .i64 t62), (20, .slice A59 t58.length c60), (21, .int .i64 (t58.length : Int))]) (d := 22) (t := (decide (t62 < (t58.length : Int)))) (by kernel_rfl) (fun h72 => ?_) (fun h73 => ?_)
   ·skip
    have hp74 := ite_t hb68 h72
    refine sx_run 19 (todo' := [.code (cd19 [1, 1, 1, 0, 1, 0, 0, 1, 0, 0, 1, 0, 1, 0, 0]), .inLoop (cd19 [1, 1, 1, 0, 1, 0, 0, 1, 0, 0, 1, 0, 1, 0, 0]), .inBlock 2, .code (cd19 [1, 1, 1, 0, 1, 0, 0, 1, 0, 0, 1, 1]), .inBlock 1, .code (cd19 [1, 1, 1, 0, 1, 0, 0, 1, 1]), .inLoop (cd19 [1, 1, 1, 0, 1, 0, 0]), .inBlock 0, .code (cd19 [1, 1, 1, 1])]) (us := [(25, .int .i64 t62), (8, .int .i64 t62), (26, .int .i64 t62), (27, .int .i64 (IntKind.i64.wrap (t62 + 1))), (9, .int .i64 (IntKind.i64.wrap (t62 + 1)))]) (by kernel_rfl) ?_
    obtain ⟨v75, hv76, hp77⟩ := bind_some' hp74
    have J81 : ∀ (t78 : Int) (he83 : t78 = v75) (l82 : List Value) (w79 : World) (hS80 : St w0 Z (xrow A55 c56 39 3 (t54.flatMap enc_api_Pick) :: xrow A59 c60 9 1 (t58.flatMap encS) :: xblk ba0_1c0 53 ([.func (.func 20) #[] #[.pointer (some ⟨ba0_1c0vc0, 0, none⟩)]]) :: xblk ba0_1c0vc0 25 ([.slice Aa0_1c0vc0v_0 a0_1c0vc0v.To.length ca0_1c0vc0v_0, .int .u64 a0_1c0vc0v.Ends, .bool a0_1c0vc0v.Odd, .int .i64 a0_1c0vc0v.Holes]) :: fs) w79), Runs Try.prog 19 [.code (cd19 [1, 1, 1, 0, 1, 0, 0, 1, 0, 0, 1, 1]), .inBlock 1, .code (cd19 [1, 1, 1, 0, 1, 0, 0, 1, 1]), .inLoop (cd19 [1, 1, 1, 0, 1, 0, 0]), .inBlock 0, .code (cd19 [1, 1, 1, 1])] (fill [none, some (.slice A55 t54.length c56), none, none, none, some (.slice A59 t58.length c60), none, some (.int .i64 t62), some (.int .i64 t78), none, none, none, none, none, none, none, none, none, none, none, none, none, none, none, none, none, none, none, none, none, none, none, none, none, none, none, none, none, none, none, none, none, none, none, none, none, none, none, none, none, none, none, none, none, none, none, none, none, none, none, none, none, none, none, none, none] l82) w79 R := by
     intro t78 he83 l82 w79 hS80
     subst he83
     try dsimp only at hp77
     refine sx_split 5 (todo' := [.inRegion (opsOf (cd19 [1, 1, 1, 0, 1, 0, 0, 1, 0, 0, 1, 1, 0])) [], .code (cd19 [1, 1, 1, 0, 1, 0, 0, 1, 0, 0, 1, 1, 1]), .inBlock 1, .code (cd19 [1, 1, 1, 0, 1, 0, 0, 1, 1]), .inLoop (cd19 [1, 1, 1, 0, 1, 0, 0]), .inBlock 0, .code (cd19 [1, 1, 1, 1])]) (us := [(44, .int .i64 t78), (45, .int .i64 t62)]) (d := 46) (t := (decide (t78 > t62))) (by kernel_rfl) (fun h84 => ?_) (fun h85 => ?_)
     ·skip
      have hp86 := ite_t hp77 h84
      refine sx_run 3 (todo' := [.code (cd19 [1, 1, 1, 0, 1, 0, 0, 1, 0, 0, 1, 1, 1, 0, 0]), .code (cd19 [1, 1, 1, 0, 1, 0, 0, 1, 0, 0, 1, 1, 1, 0, 1]), .inBlock 1, .code (cd19 [1, 1, 1, 0, 1, 0, 0, 1, 1]), .inLoop (cd19 [1, 1, 1, 0, 1, 0, 0]), .inBlock 0, .code (cd19 [1, 1, 1, 1])]) (us := []) (by kernel_rfl) ?_
      obtain ⟨g89, hp90⟩ := ite_some hp86
      have hc96 := (hS80.row 1 rfl).cap len_encS (by omega)
      have g97 : 0 ≤ t62 ∧ t62 ≤ (c60 : Int) := by omega
      obtain ⟨g102, hp103⟩ := ite_some hp90
      obtain ⟨g104, hp105⟩ := ite_some hp103
      obtain ⟨g115, hp116⟩ := ite_some hp105
      refine r_drawnP (S := Option Nat × Option (Option Addr × Nat) × Option (Option Addr × Nat)) (dn := (fun (st : Option Nat × Option (Option Addr × Nat) × Option (Option Addr × Nat)) k => [st.1.isSome, st.2.1.isSome, st.2.2.isSome].getD k true)) (C := (fun st w' => match st with | (none, none, none) => St w0 Z (xrow A55 c56 39 3 (t54.flatMap enc_api_Pick) :: xrow A59 c60 9 1 (t58.flatMap encS) :: xblk ba0_1c0 53 ([.func (.func 20) #[] #[.pointer (some ⟨ba0_1c0vc0, 0, none⟩)]]) :: xblk ba0_1c0vc0 25 ([.slice Aa0_1c0vc0v_0 a0_1c0vc0v.To.length ca0_1c0vc0v_0, .int .u64 a0_1c0vc0v.Ends, .bool a0_1c0vc0v.Odd, .int .i64 a0_1c0vc0v.Holes]) :: fs) w' | (none, none, some x114) => False | (none, some x101, none) => False | (none, some x101, some x114) => False | (some b87, none, none) => St w0 Z (xrow (some ⟨b87, 0, none⟩) 0 9 1 (([] : List ByteArray).flatMap encS) :: xrow A55 c56 39 3 (t54.flatMap enc_api_Pick) :: xrow A59 c60 9 1 (t58.flatMap encS) :: xblk ba0_1c0 53 ([.func (.func 20) #[] #[.pointer (some ⟨ba0_1c0vc0, 0, none⟩)]]) :: xblk ba0_1c0vc0 25 ([.slice Aa0_1c0vc0v_0 a0_1c0vc0v.To.length ca0_1c0vc0v_0, .int .u64 a0_1c0vc0v.Ends, .bool a0_1c0vc0v.Odd, .int .i64 a0_1c0vc0v.Holes]) :: fs) w' | (some b87, none, some x114) => False | (some b87, some x101, none) => St w0 Z (xrow x101.1 x101.2 9 1 ((([] : List ByteArray) ++ (t58.take t62.toNat)).flatMap encS) :: xrow A55 c56 39 3 (t54.flatMap enc_api_Pick) :: xrow A59 c60 9 1 (t58.flatMap encS) :: xblk ba0_1c0 53 ([.func (.func 20) #[] #[.pointer (some ⟨ba0_1c0vc0, 0, none⟩)]]) :: xblk ba0_1c0vc0 25 ([.slice Aa0_1c0vc0v_0 a0_1c0vc0v.To.length ca0_1c0vc0v_0, .int .u64 a0_1c0vc0v.Ends, .bool a0_1c0vc0v.Odd, .int .i64 a0_1c0vc0v.Holes]) :: fs) w' | (some b87, some x101, some x114) => St w0 Z (xrow x114.1 x114.2 9 1 (((([] : List ByteArray) ++ (t58.take t62.toNat)) ++ ((t58.drop t78.toNat).take (t58.length - t78.toNat))).flatMap encS) :: xrow A55 c56 39 3 (t54.flatMap enc_api_Pick) :: xrow A59 c60 9 1 (t58.flatMap encS) :: xblk ba0_1c0 53 ([.func (.func 20) #[] #[.pointer (some ⟨ba0_1c0vc0, 0, none⟩)]]) :: xblk ba0_1c0vc0 25 ([.slice Aa0_1c0vc0v_0 a0_1c0vc0v.To.length ca0_1c0vc0v_0, .int .u64 a0_1c0vc0v.Ends, .bool a0_1c0vc0v.Odd, .int .i64 a0_1c0vc0v.Holes]) :: fs) w')) (v := (fun st => match st with | (none, none, none) => [undef, .slice A59 t58.length c60, .int .i64 t62, .slice A59 t62.toNat c60, undef, .slice A59 t58.length c60, .int .i64 t78, .slice (vA A59 c60 t78.toNat 1) (t58.length - t78.toNat) (c60 - t78.toNat), undef, undef] | (none, none, some x114) => [undef, .slice A59 t58.length c60, .int .i64 t62, .slice A59 t62.toNat c60, undef, .slice A59 t58.length c60, .int .i64 t78, .slice (vA A59 c60 t78.toNat 1) (t58.length - t78.toNat) (c60 - t78.toNat), undef, undef] | (none, some x101, none) => [undef, .slice A59 t58.length c60, .int .i64 t62, .slice A59 t62.toNat c60, undef, .slice A59 t58.length c60, .int .i64 t78, .slice (vA A59 c60 t78.toNat 1) (t58.length - t78.toNat) (c60 - t78.toNat), undef, undef] | (none, some x101, some x114) => [undef, .slice A59 t58.length c60, .int .i64 t62, .slice A59 t62.toNat c60, undef, .slice A59 t58.length c60, .int .i64 t78, .slice (vA A59 c60 t78.toNat 1) (t58.length - t78.toNat) (c60 - t78.toNat), undef, undef] | (some b87, none, none) => [.slice (some ⟨b87, 0, none⟩) ([] : List ByteArray).length 0, .slice A59 t58.length c60, .int .i64 t62, .slice A59 t62.toNat c60, undef, .slice A59 t58.length c60, .int .i64 t78, .slice (vA A59 c60 t78.toNat 1) (t58.length - t78.toNat) (c60 - t78.toNat), undef, undef] | (some b87, none, some x114) => [.slice (some ⟨b87, 0, none⟩) ([] : List ByteArray).length 0, .slice A59 t58.length c60, .int .i64 t62, .slice A59 t62.toNat c60, undef, .slice A59 t58.length c60, .int .i64 t78, .slice (vA A59 c60 t78.toNat 1) (t58.length - t78.toNat) (c60 - t78.toNat), undef, undef] | (some b87, some x101, none) => [.slice (some ⟨b87, 0, none⟩) ([] : List ByteArray).length 0, .slice A59 t58.length c60, .int .i64 t62, .slice A59 t62.toNat c60, .slice x101.1 (([] : List ByteArray) ++ (t58.take t62.toNat)).length x101.2, .slice A59 t58.length c60, .int .i64 t78, .slice (vA A59 c60 t78.toNat 1) (t58.length - t78.toNat) (c60 - t78.toNat), undef, undef] | (some b87, some x101, some x114) => [.slice (some ⟨b87, 0, none⟩) ([] : List ByteArray).length 0, .slice A59 t58.length c60, .int .i64 t62, .slice A59 t62.toNat c60, .slice x101.1 (([] : List ByteArray) ++ (t58.take t62.toNat)).length x101.2, .slice A59 t58.length c60, .int .i64 t78, .slice (vA A59 c60 t78.toNat 1) (t58.length - t78.toNat) (c60 - t78.toNat), .slice x114.1 ((([] : List ByteArray) ++ (t58.take t62.toNat)) ++ ((t58.drop t78.toNat).take (t58.length - t78.toNat))).length x114.2, .slice x114.1 ((([] : List ByteArray) ++ (t58.take t62.toNat)) ++ ((t58.drop t78.toNat).take (t58.length - t78.toNat))).length x114.2])) (c := (cd19 [1, 1, 1, 0, 1, 0, 0, 1, 0, 0, 1, 1, 1, 0, 0])) (id := 13) (none, none, none) 0 10 [0, 4, 8] [[], [], [], [], [0], [], [], [], [0, 1], [0, 1, 2]] [[1], [], [], [1], [2], [], [], [2], [], []] [9] [true, true, true, true, true, true, true, true, true, true] (by kernel_rfl) (by kernel_rfl) (by kernel_rfl) (by kernel_rfl) (by kernel_rfl) (by kernel_rfl) (by kernel_rfl) (by kernel_rfl) (by kernel_rfl) (fun k hk => match k, hk with | 0, _ => rfl | 1, _ => rfl | 2, _ => rfl | k + 3, hk => absurd hk (by simp)) hS80.drew ?_ (fun k hk => match k, hk with | 0, _ => rfl | 1, _ => rfl | 2, _ => rfl | k + 3, hk => absurd hk (by simp)) ?_ ?_ ?_
      ·intro i hi st w hC hd
       match i, hi with
       | 0, _ => (show _ = _; kernel_rfl)
       | 1, _ => (show _ = _; kernel_rfl)
       | 2, _ => (show _ = _; kernel_rfl)
       | 3, _ => (show _ = _; kernel_rfl)
       | 4, _ => (show _ = _; kernel_rfl)
       | 5, _ => (show _ = _; kernel_rfl)
       | 6, _ => (show _ = _; kernel_rfl)
       | 7, _ => (show _ = _; kernel_rfl)
       | 8, _ => (show _ = _; kernel_rfl)
       | 9, _ => (show _ = _; kernel_rfl)
       | i + 10, hi => exact absurd hi (by omega)
      ·intro i hi he st w hC hd hu
       match i, hi, he with
       | 0, _, he => exact absurd he (by decide)
       | 1, _, _ =>
        rcases st with ⟨_ | b87, _ | x101, _ | x114⟩
        ·replace hC : St w0 Z (xrow A55 c56 39 3 (t54.flatMap enc_api_Pick) :: xrow A59 c60 9 1 (t58.flatMap encS) :: xblk ba0_1c0 53 ([.func (.func 20) #[] #[.pointer (some ⟨ba0_1c0vc0, 0, none⟩)]]) :: xblk ba0_1c0vc0 25 ([.slice Aa0_1c0vc0v_0 a0_1c0vc0v.To.length ca0_1c0vc0v_0, .int .u64 a0_1c0vc0v.Ends, .bool a0_1c0vc0v.Odd, .int .i64 a0_1c0vc0v.Holes]) :: fs) w := hC
         exact ⟨fun _ => does_pure (v := .slice A59 t58.length c60) (by kernel_rfl) rfl hC, fun h => absurd h (by decide)⟩
        ·exact False.elim hC
        ·exact False.elim hC
        ·exact False.elim hC
        ·replace hC : St w0 Z (xrow (some ⟨b87, 0, none⟩) 0 9 1 (([] : List ByteArray).flatMap encS) :: xrow A55 c56 39 3 (t54.flatMap enc_api_Pick) :: xrow A59 c60 9 1 (t58.flatMap encS) :: xblk ba0_1c0 53 ([.func (.func 20) #[] #[.pointer (some ⟨ba0_1c0vc0, 0, none⟩)]]) :: xblk ba0_1c0vc0 25 ([.slice Aa0_1c0vc0v_0 a0_1c0vc0v.To.length ca0_1c0vc0v_0, .int .u64 a0_1c0vc0v.Ends, .bool a0_1c0vc0v.Odd, .int .i64 a0_1c0vc0v.Holes]) :: fs) w := hC
         exact ⟨fun _ => does_pure (v := .slice A59 t58.length c60) (by kernel_rfl) rfl hC, fun h => absurd h (by decide)⟩
        ·exact False.elim hC
        ·replace hC : St w0 Z (xrow x101.1 x101.2 9 1 ((([] : List ByteArray) ++ (t58.take t62.toNat)).flatMap encS) :: xrow A55 c56 39 3 (t54.flatMap enc_api_Pick) :: xrow A59 c60 9 1 (t58.flatMap encS) :: xblk ba0_1c0 53 ([.func (.func 20) #[] #[.pointer (some ⟨ba0_1c0vc0, 0, none⟩)]]) :: xblk ba0_1c0vc0 25 ([.slice Aa0_1c0vc0v_0 a0_1c0vc0v.To.length ca0_1c0vc0v_0, .int .u64 a0_1c0vc0v.Ends, .bool a0_1c0vc0v.Odd, .int .i64 a0_1c0vc0v.Holes]) :: fs) w := hC
         exact ⟨fun _ => does_pure (v := .slice A59 t58.length c60) (by kernel_rfl) rfl hC, fun h => absurd h (by decide)⟩
        ·replace hC : St w0 Z (xrow x114.1 x114.2 9 1 (((([] : List ByteArray) ++ (t58.take t62.toNat)) ++ ((t58.drop t78.toNat).take (t58.length - t78.toNat))).flatMap encS) :: xrow A55 c56 39 3 (t54.flatMap enc_api_Pick) :: xrow A59 c60 9 1 (t58.flatMap encS) :: xblk ba0_1c0 53 ([.func (.func 20) #[] #[.pointer (some ⟨ba0_1c0vc0, 0, none⟩)]]) :: xblk ba0_1c0vc0 25 ([.slice Aa0_1c0vc0v_0 a0_1c0vc0v.To.length ca0_1c0vc0v_0, .int .u64 a0_1c0vc0v.Ends, .bool a0_1c0vc0v.Odd, .int .i64 a0_1c0vc0v.Holes]) :: fs) w := hC
         exact ⟨fun _ => does_pure (v := .slice A59 t58.length c60) (by kernel_rfl) rfl hC, fun h => absurd h (by decide)⟩
       | 2, _, _ =>
        rcases st with ⟨_ | b87, _ | x101, _ | x114⟩
        ·replace hC : St w0 Z (xrow A55 c56 39 3 (t54.flatMap enc_api_Pick) :: xrow A59 c60 9 1 (t58.flatMap encS) :: xblk ba0_1c0 53 ([.func (.func 20) #[] #[.pointer (some ⟨ba0_1c0vc0, 0, none⟩)]]) :: xblk ba0_1c0vc0 25 ([.slice Aa0_1c0vc0v_0 a0_1c0vc0v.To.length ca0_1c0vc0v_0, .int .u64 a0_1c0vc0v.Ends, .bool a0_1c0vc0v.Odd, .int .i64 a0_1c0vc0v.Holes]) :: fs) w := hC
         exact ⟨fun _ => does_pure (v := .int .i64 t62) (by kernel_rfl) rfl hC, fun h => absurd h (by decide)⟩
        ·exact False.elim hC
        ·exact False.elim hC
        ·exact False.elim hC
        ·replace hC : St w0 Z (xrow (some ⟨b87, 0, none⟩) 0 9 1 (([] : List ByteArray).flatMap encS) :: xrow A55 c56 39 3 (t54.flatMap enc_api_Pick) :: xrow A59 c60 9 1 (t58.flatMap encS) :: xblk ba0_1c0 53 ([.func (.func 20) #[] #[.pointer (some ⟨ba0_1c0vc0, 0, none⟩)]]) :: xblk ba0_1c0vc0 25 ([.slice Aa0_1c0vc0v_0 a0_1c0vc0v.To.length ca0_1c0vc0v_0, .int .u64 a0_1c0vc0v.Ends, .bool a0_1c0vc0v.Odd, .int .i64 a0_1c0vc0v.Holes]) :: fs) w := hC
         exact ⟨fun _ => does_pure (v := .int .i64 t62) (by kernel_rfl) rfl hC, fun h => absurd h (by decide)⟩
        ·exact False.elim hC
        ·replace hC : St w0 Z (xrow x101.1 x101.2 9 1 ((([] : List ByteArray) ++ (t58.take t62.toNat)).flatMap encS) :: xrow A55 c56 39 3 (t54.flatMap enc_api_Pick) :: xrow A59 c60 9 1 (t58.flatMap encS) :: xblk ba0_1c0 53 ([.func (.func 20) #[] #[.pointer (some ⟨ba0_1c0vc0, 0, none⟩)]]) :: xblk ba0_1c0vc0 25 ([.slice Aa0_1c0vc0v_0 a0_1c0vc0v.To.length ca0_1c0vc0v_0, .int .u64 a0_1c0vc0v.Ends, .bool a0_1c0vc0v.Odd, .int .i64 a0_1c0vc0v.Holes]) :: fs) w := hC
         exact ⟨fun _ => does_pure (v := .int .i64 t62) (by kernel_rfl) rfl hC, fun h => absurd h (by decide)⟩
        ·replace hC : St w0 Z (xrow x114.1 x114.2 9 1 (((([] : List ByteArray) ++ (t58.take t62.toNat)) ++ ((t58.drop t78.toNat).take (t58.length - t78.toNat))).flatMap encS) :: xrow A55 c56 39 3 (t54.flatMap enc_api_Pick) :: xrow A59 c60 9 1 (t58.flatMap encS) :: xblk ba0_1c0 53 ([.func (.func 20) #[] #[.pointer (some ⟨ba0_1c0vc0, 0, none⟩)]]) :: xblk ba0_1c0vc0 25 ([.slice Aa0_1c0vc0v_0 a0_1c0vc0v.To.length ca0_1c0vc0v_0, .int .u64 a0_1c0vc0v.Ends, .bool a0_1c0vc0v.Odd, .int .i64 a0_1c0vc0v.Holes]) :: fs) w := hC
         exact ⟨fun _ => does_pure (v := .int .i64 t62) (by kernel_rfl) rfl hC, fun h => absurd h (by decide)⟩
       | 3, _, _ =>
        rcases st with ⟨_ | b87, _ | x101, _ | x114⟩
        ·replace hC : St w0 Z (xrow A55 c56 39 3 (t54.flatMap enc_api_Pick) :: xrow A59 c60 9 1 (t58.flatMap encS) :: xblk ba0_1c0 53 ([.func (.func 20) #[] #[.pointer (some ⟨ba0_1c0vc0, 0, none⟩)]]) :: xblk ba0_1c0vc0 25 ([.slice Aa0_1c0vc0v_0 a0_1c0vc0v.To.length ca0_1c0vc0v_0, .int .u64 a0_1c0vc0v.Ends, .bool a0_1c0vc0v.Odd, .int .i64 a0_1c0vc0v.Holes]) :: fs) w := hC
         exact ⟨fun _ => does_run (x_cutSl_nsC (t := 40) (x := (.tmp 48)) (hi := (.tmp 49)) (e := 9) (sz := 1) (A := A59) (n := t58.length) (c := c60) (k := .i64) (by kernel_rfl) (by kernel_rfl) (by kernel_rfl) (by kernel_rfl) g97 cut0 (by kernel_rfl)) rfl hC, fun h => absurd h (by decide)⟩
        ·exact False.elim hC
        ·exact False.elim hC
        ·exact False.elim hC
        ·replace hC : St w0 Z (xrow (some ⟨b87, 0, none⟩) 0 9 1 (([] : List ByteArray).flatMap encS) :: xrow A55 c56 39 3 (t54.flatMap enc_api_Pick) :: xrow A59 c60 9 1 (t58.flatMap encS) :: xblk ba0_1c0 53 ([.func (.func 20) #[] #[.pointer (some ⟨ba0_1c0vc0, 0, none⟩)]]) :: xblk ba0_1c0vc0 25 ([.slice Aa0_1c0vc0v_0 a0_1c0vc0v.To.length ca0_1c0vc0v_0, .int .u64 a0_1c0vc0v.Ends, .bool a0_1c0vc0v.Odd, .int .i64 a0_1c0vc0v.Holes]) :: fs) w := hC
         exact ⟨fun _ => does_run (x_cutSl_nsC (t := 40) (x := (.tmp 48)) (hi := (.tmp 49)) (e := 9) (sz := 1) (A := A59) (n := t58.length) (c := c60) (k := .i64) (by kernel_rfl) (by kernel_rfl) (by kernel_rfl) (by kernel_rfl) g97 cut0 (by kernel_rfl)) rfl hC, fun h => absurd h (by decide)⟩
        ·exact False.elim hC
        ·exact Bool.noConfusion (hu 1 (by decide))
        ·exact Bool.noConfusion (hu 1 (by decide))
       | 4, _, he => exact absurd he (by decide)
       | 5, _, _ =>
        rcases st with ⟨_ | b87, _ | x101, _ | x114⟩
        ·replace hC : St w0 Z (xrow A55 c56 39 3 (t54.flatMap enc_api_Pick) :: xrow A59 c60 9 1 (t58.flatMap encS) :: xblk ba0_1c0 53 ([.func (.func 20) #[] #[.pointer (some ⟨ba0_1c0vc0, 0, none⟩)]]) :: xblk ba0_1c0vc0 25 ([.slice Aa0_1c0vc0v_0 a0_1c0vc0v.To.length ca0_1c0vc0v_0, .int .u64 a0_1c0vc0v.Ends, .bool a0_1c0vc0v.Odd, .int .i64 a0_1c0vc0v.Holes]) :: fs) w := hC
         exact ⟨fun _ => does_pure (v := .slice A59 t58.length c60) (by kernel_rfl) rfl hC, fun h => absurd h (by decide)⟩
        ·exact False.elim hC
        ·exact False.elim hC
        ·exact False.elim hC
        ·replace hC : St w0 Z (xrow (some ⟨b87, 0, none⟩) 0 9 1 (([] : List ByteArray).flatMap encS) :: xrow A55 c56 39 3 (t54.flatMap enc_api_Pick) :: xrow A59 c60 9 1 (t58.flatMap encS) :: xblk ba0_1c0 53 ([.func (.func 20) #[] #[.pointer (some ⟨ba0_1c0vc0, 0, none⟩)]]) :: xblk ba0_1c0vc0 25 ([.slice Aa0_1c0vc0v_0 a0_1c0vc0v.To.length ca0_1c0vc0v_0, .int .u64 a0_1c0vc0v.Ends, .bool a0_1c0vc0v.Odd, .int .i64 a0_1c0vc0v.Holes]) :: fs) w := hC
         exact ⟨fun _ => does_pure (v := .slice A59 t58.length c60) (by kernel_rfl) rfl hC, fun h => absurd h (by decide)⟩
        ·exact False.elim hC
        ·replace hC : St w0 Z (xrow x101.1 x101.2 9 1 ((([] : List ByteArray) ++ (t58.take t62.toNat)).flatMap encS) :: xrow A55 c56 39 3 (t54.flatMap enc_api_Pick) :: xrow A59 c60 9 1 (t58.flatMap encS) :: xblk ba0_1c0 53 ([.func (.func 20) #[] #[.pointer (some ⟨ba0_1c0vc0, 0, none⟩)]]) :: xblk ba0_1c0vc0 25 ([.slice Aa0_1c0vc0v_0 a0_1c0vc0v.To.length ca0_1c0vc0v_0, .int .u64 a0_1c0vc0v.Ends, .bool a0_1c0vc0v.Odd, .int .i64 a0_1c0vc0v.Holes]) :: fs) w := hC
         exact ⟨fun _ => does_pure (v := .slice A59 t58.length c60) (by kernel_rfl) rfl hC, fun h => absurd h (by decide)⟩
        ·replace hC : St w0 Z (xrow x114.1 x114.2 9 1 (((([] : List ByteArray) ++ (t58.take t62.toNat)) ++ ((t58.drop t78.toNat).take (t58.length - t78.toNat))).flatMap encS) :: xrow A55 c56 39 3 (t54.flatMap enc_api_Pick) :: xrow A59 c60 9 1 (t58.flatMap encS) :: xblk ba0_1c0 53 ([.func (.func 20) #[] #[.pointer (some ⟨ba0_1c0vc0, 0, none⟩)]]) :: xblk ba0_1c0vc0 25 ([.slice Aa0_1c0vc0v_0 a0_1c0vc0v.To.length ca0_1c0vc0v_0, .int .u64 a0_1c0vc0v.Ends, .bool a0_1c0vc0v.Odd, .int .i64 a0_1c0vc0v.Holes]) :: fs) w := hC
         exact ⟨fun _ => does_pure (v := .slice A59 t58.length c60) (by kernel_rfl) rfl hC, fun h => absurd h (by decide)⟩
       | 6, _, _ =>
        rcases st with ⟨_ | b87, _ | x101, _ | x114⟩
        ·replace hC : St w0 Z (xrow A55 c56 39 3 (t54.flatMap enc_api_Pick) :: xrow A59 c60 9 1 (t58.flatMap encS) :: xblk ba0_1c0 53 ([.func (.func 20) #[] #[.pointer (some ⟨ba0_1c0vc0, 0, none⟩)]]) :: xblk ba0_1c0vc0 25 ([.slice Aa0_1c0vc0v_0 a0_1c0vc0v.To.length ca0_1c0vc0v_0, .int .u64 a0_1c0vc0v.Ends, .bool a0_1c0vc0v.Odd, .int .i64 a0_1c0vc0v.Holes]) :: fs) w := hC
         exact ⟨fun _ => does_pure (v := .int .i64 t78) (by kernel_rfl) rfl hC, fun h => absurd h (by decide)⟩
        ·exact False.elim hC
        ·exact False.elim hC
        ·exact False.elim hC
        ·replace hC : St w0 Z (xrow (some ⟨b87, 0, none⟩) 0 9 1 (([] : List ByteArray).flatMap encS) :: xrow A55 c56 39 3 (t54.flatMap enc_api_Pick) :: xrow A59 c60 9 1 (t58.flatMap encS) :: xblk ba0_1c0 53 ([.func (.func 20) #[] #[.pointer (some ⟨ba0_1c0vc0, 0, none⟩)]]) :: xblk ba0_1c0vc0 25 ([.slice Aa0_1c0vc0v_0 a0_1c0vc0v.To.length ca0_1c0vc0v_0, .int .u64 a0_1c0vc0v.Ends, .bool a0_1c0vc0v.Odd, .int .i64 a0_1c0vc0v.Holes]) :: fs) w := hC
         exact ⟨fun _ => does_pure (v := .int .i64 t78) (by kernel_rfl) rfl hC, fun h => absurd h (by decide)⟩
        ·exact False.elim hC
        ·replace hC : St w0 Z (xrow x101.1 x101.2 9 1 ((([] : List ByteArray) ++ (t58.take t62.toNat)).flatMap encS) :: xrow A55 c56 39 3 (t54.flatMap enc_api_Pick) :: xrow A59 c60 9 1 (t58.flatMap encS) :: xblk ba0_1c0 53 ([.func (.func 20) #[] #[.pointer (some ⟨ba0_1c0vc0, 0, none⟩)]]) :: xblk ba0_1c0vc0 25 ([.slice Aa0_1c0vc0v_0 a0_1c0vc0v.To.length ca0_1c0vc0v_0, .int .u64 a0_1c0vc0v.Ends, .bool a0_1c0vc0v.Odd, .int .i64 a0_1c0vc0v.Holes]) :: fs) w := hC
         exact ⟨fun _ => does_pure (v := .int .i64 t78) (by kernel_rfl) rfl hC, fun h => absurd h (by decide)⟩
        ·replace hC : St w0 Z (xrow x114.1 x114.2 9 1 (((([] : List ByteArray) ++ (t58.take t62.toNat)) ++ ((t58.drop t78.toNat).take (t58.length - t78.toNat))).flatMap encS) :: xrow A55 c56 39 3 (t54.flatMap enc_api_Pick) :: xrow A59 c60 9 1 (t58.flatMap encS) :: xblk ba0_1c0 53 ([.func (.func 20) #[] #[.pointer (some ⟨ba0_1c0vc0, 0, none⟩)]]) :: xblk ba0_1c0vc0 25 ([.slice Aa0_1c0vc0v_0 a0_1c0vc0v.To.length ca0_1c0vc0v_0, .int .u64 a0_1c0vc0v.Ends, .bool a0_1c0vc0v.Odd, .int .i64 a0_1c0vc0v.Holes]) :: fs) w := hC
         exact ⟨fun _ => does_pure (v := .int .i64 t78) (by kernel_rfl) rfl hC, fun h => absurd h (by decide)⟩
       | 7, _, _ =>
        rcases st with ⟨_ | b87, _ | x101, _ | x114⟩
        ·replace hC : St w0 Z (xrow A55 c56 39 3 (t54.flatMap enc_api_Pick) :: xrow A59 c60 9 1 (t58.flatMap encS) :: xblk ba0_1c0 53 ([.func (.func 20) #[] #[.pointer (some ⟨ba0_1c0vc0, 0, none⟩)]]) :: xblk ba0_1c0vc0 25 ([.slice Aa0_1c0vc0v_0 a0_1c0vc0v.To.length ca0_1c0vc0v_0, .int .u64 a0_1c0vc0v.Ends, .bool a0_1c0vc0v.Odd, .int .i64 a0_1c0vc0v.Holes]) :: fs) w := hC
         exact ⟨fun _ => does_run (x_cutSl_sn (t := 40) (x := (.tmp 52)) (lo := (.tmp 53)) (e := 9) (sz := 1) (A := A59) (n := t58.length) (c := c60) (k := .i64) (by kernel_rfl) (by kernel_rfl) (by kernel_rfl) (by kernel_rfl) g104 rfl (by kernel_rfl)) rfl hC, fun h => absurd h (by decide)⟩
        ·exact False.elim hC
        ·exact False.elim hC
        ·exact False.elim hC
        ·replace hC : St w0 Z (xrow (some ⟨b87, 0, none⟩) 0 9 1 (([] : List ByteArray).flatMap encS) :: xrow A55 c56 39 3 (t54.flatMap enc_api_Pick) :: xrow A59 c60 9 1 (t58.flatMap encS) :: xblk ba0_1c0 53 ([.func (.func 20) #[] #[.pointer (some ⟨ba0_1c0vc0, 0, none⟩)]]) :: xblk ba0_1c0vc0 25 ([.slice Aa0_1c0vc0v_0 a0_1c0vc0v.To.length ca0_1c0vc0v_0, .int .u64 a0_1c0vc0v.Ends, .bool a0_1c0vc0v.Odd, .int .i64 a0_1c0vc0v.Holes]) :: fs) w := hC
         exact ⟨fun _ => does_run (x_cutSl_sn (t := 40) (x := (.tmp 52)) (lo := (.tmp 53)) (e := 9) (sz := 1) (A := A59) (n := t58.length) (c := c60) (k := .i64) (by kernel_rfl) (by kernel_rfl) (by kernel_rfl) (by kernel_rfl) g104 rfl (by kernel_rfl)) rfl hC, fun h => absurd h (by decide)⟩
        ·exact False.elim hC
        ·replace hC : St w0 Z (xrow x101.1 x101.2 9 1 ((([] : List ByteArray) ++ (t58.take t62.toNat)).flatMap encS) :: xrow A55 c56 39 3 (t54.flatMap enc_api_Pick) :: xrow A59 c60 9 1 (t58.flatMap encS) :: xblk ba0_1c0 53 ([.func (.func 20) #[] #[.pointer (some ⟨ba0_1c0vc0, 0, none⟩)]]) :: xblk ba0_1c0vc0 25 ([.slice Aa0_1c0vc0v_0 a0_1c0vc0v.To.length ca0_1c0vc0v_0, .int .u64 a0_1c0vc0v.Ends, .bool a0_1c0vc0v.Odd, .int .i64 a0_1c0vc0v.Holes]) :: fs) w := hC
         exact ⟨fun _ => does_run (x_cutSl_sn (t := 40) (x := (.tmp 52)) (lo := (.tmp 53)) (e := 9) (sz := 1) (A := A59) (n := t58.length) (c := c60) (k := .i64) (by kernel_rfl) (by kernel_rfl) (by kernel_rfl) (by kernel_rfl) g104 rfl (by kernel_rfl)) rfl hC, fun h => absurd h (by decide)⟩
        ·exact Bool.noConfusion (hu 2 (by decide))
       | 8, _, he => exact absurd he (by decide)
       | 9, _, _ =>
        rcases st with ⟨_ | b87, _ | x101, _ | x114⟩
        ·exact Bool.noConfusion (hd 0 (by decide))
        ·exact False.elim hC
        ·exact False.elim hC
        ·exact False.elim hC
        ·exact Bool.noConfusion (hd 1 (by decide))
        ·exact False.elim hC
        ·exact Bool.noConfusion (hd 2 (by decide))
        ·replace hC : St w0 Z (xrow x114.1 x114.2 9 1 (((([] : List ByteArray) ++ (t58.take t62.toNat)) ++ ((t58.drop t78.toNat).take (t58.length - t78.toNat))).flatMap encS) :: xrow A55 c56 39 3 (t54.flatMap enc_api_Pick) :: xrow A59 c60 9 1 (t58.flatMap encS) :: xblk ba0_1c0 53 ([.func (.func 20) #[] #[.pointer (some ⟨ba0_1c0vc0, 0, none⟩)]]) :: xblk ba0_1c0vc0 25 ([.slice Aa0_1c0vc0v_0 a0_1c0vc0v.To.length ca0_1c0vc0v_0, .int .u64 a0_1c0vc0v.Ends, .bool a0_1c0vc0v.Odd, .int .i64 a0_1c0vc0v.Holes]) :: fs) w := hC
         exact ⟨fun _ => does_pure (v := .slice x114.1 ((([] : List ByteArray) ++ (t58.take t62.toNat)) ++ ((t58.drop t78.toNat).take (t58.length - t78.toNat))).length x114.2) (by kernel_rfl) rfl hC, fun h => absurd h (by decide)⟩
       | i + 10, hi, _ => exact absurd hi (by omega)
      ·intro k hk st w hC hr hm
       match k, hk with
       | 0, _ =>
        rcases st with ⟨_ | b87, _ | x101, _ | x114⟩
        ·replace hC : St w0 Z (xrow A55 c56 39 3 (t54.flatMap enc_api_Pick) :: xrow A59 c60 9 1 (t58.flatMap encS) :: xblk ba0_1c0 53 ([.func (.func 20) #[] #[.pointer (some ⟨ba0_1c0vc0, 0, none⟩)]]) :: xblk ba0_1c0vc0 25 ([.slice Aa0_1c0vc0v_0 a0_1c0vc0v.To.length ca0_1c0vc0v_0, .int .u64 a0_1c0vc0v.Ends, .bool a0_1c0vc0v.Odd, .int .i64 a0_1c0vc0v.Holes]) :: fs) w := hC
         refine does_lit0 (t := 40) (e := 9) (sz := 1) hC (by kernel_rfl) (by kernel_rfl) (by kernel_rfl) ?_
         intro b87 w2 h2
         have h2 := h2.pick4
         have h2 := h2.pick4
         have h2 := h2.pick4
         have h2 := h2.pick4
         have h2 := h2.pick4
         refine ⟨(some b87, none, none), rfl, ?_, ?_, .inr rfl, h2⟩
         ·intro m hne; match m, hne with
          | 0, hne => exact absurd rfl hne
          | 1, hne => exact rfl
          | 2, hne => exact rfl
          | m + 3, _ => exact rfl
         ·intro j hj; match j, hj with
          | 0, hj => exact absurd (by decide) hj
          | 1, hj => exact rfl
          | 2, hj => exact rfl
          | 3, hj => exact rfl
          | 4, hj => exact absurd (by decide) hj
          | 5, hj => exact rfl
          | 6, hj => exact rfl
          | 7, hj => exact rfl
          | 8, hj => exact absurd (by decide) hj
          | 9, hj => exact absurd (by decide) hj
          | j + 10, _ => exact rfl
        ·exact False.elim hC
        ·exact False.elim hC
        ·exact False.elim hC
        ·exact Bool.noConfusion hr
        ·exact False.elim hC
        ·exact Bool.noConfusion hr
        ·exact Bool.noConfusion hr
       | 1, _ =>
        rcases st with ⟨_ | b87, _ | x101, _ | x114⟩
        ·exact Bool.noConfusion (hm 0 (by decide))
        ·exact False.elim hC
        ·exact False.elim hC
        ·exact False.elim hC
        ·replace hC : St w0 Z (xrow (some ⟨b87, 0, none⟩) 0 9 1 (([] : List ByteArray).flatMap encS) :: xrow A55 c56 39 3 (t54.flatMap enc_api_Pick) :: xrow A59 c60 9 1 (t58.flatMap encS) :: xblk ba0_1c0 53 ([.func (.func 20) #[] #[.pointer (some ⟨ba0_1c0vc0, 0, none⟩)]]) :: xblk ba0_1c0vc0 25 ([.slice Aa0_1c0vc0v_0 a0_1c0vc0v.To.length ca0_1c0vc0v_0, .int .u64 a0_1c0vc0v.Ends, .bool a0_1c0vc0v.Odd, .int .i64 a0_1c0vc0v.Holes]) :: fs) w := hC
         refine does_append (enc := encS) (e := 9) (u := 9) (t := 40) (t2 := 40) (sz := 1) (cp := 0) (A := (some ⟨b87, 0, none⟩)) (bytes := 16) (xs := ([] : List ByteArray)) (ys := (t58.take t62.toNat)) (s := (.tmp 47)) (x := (.tmp 50)) (xv := .slice A59 t62.toNat c60) (info := infoOf Try.prog 9) (z := zeroOf Try.prog 9) (ycs := (t58.take t62.toNat).flatMap encS) hC (by kernel_rfl) (by kernel_rfl) (by kernel_rfl) (by kernel_rfl) (.inl (by kernel_rfl)) (by kernel_rfl) (by kernel_rfl) (by kernel_rfl) (by kernel_rfl) (by kernel_rfl) (by omega) len_encS one_encS (src_row0' (hC.row 2 rfl) (by omega) len_encS (by omega)) rfl g102 (by omega) ?_
         intro A98 c99 w2 h2
         have h2 := h2.pick4
         have h2 := h2.pick4
         have h2 := h2.pick4
         have h2 := h2.pick4
         have h2 := h2.pick4
         refine ⟨(some b87, some (A98, c99), none), rfl, ?_, ?_, .inr rfl, h2⟩
         ·intro m hne; match m, hne with
          | 0, hne => exact rfl
          | 1, hne => exact absurd rfl hne
          | 2, hne => exact rfl
          | m + 3, _ => exact rfl
         ·intro j hj; match j, hj with
          | 0, hj => exact rfl
          | 1, hj => exact rfl
          | 2, hj => exact rfl
          | 3, hj => exact rfl
          | 4, hj => exact absurd (by decide) hj
          | 5, hj => exact rfl
          | 6, hj => exact rfl
          | 7, hj => exact rfl
          | 8, hj => exact absurd (by decide) hj
          | 9, hj => exact absurd (by decide) hj
          | j + 10, _ => exact rfl
        ·exact False.elim hC
        ·exact Bool.noConfusion hr
        ·exact Bool.noConfusion hr
       | 2, _ =>
        rcases st with ⟨_ | b87, _ | x101, _ | x114⟩
        ·exact Bool.noConfusion (hm 0 (by decide))
        ·exact False.elim hC
        ·exact False.elim hC
        ·exact False.elim hC
        ·exact Bool.noConfusion (hm 1 (by decide))
        ·exact False.elim hC
        ·replace hC : St w0 Z (xrow x101.1 x101.2 9 1 ((([] : List ByteArray) ++ (t58.take t62.toNat)).flatMap encS) :: xrow A55 c56 39 3 (t54.flatMap enc_api_Pick) :: xrow A59 c60 9 1 (t58.flatMap encS) :: xblk ba0_1c0 53 ([.func (.func 20) #[] #[.pointer (some ⟨ba0_1c0vc0, 0, none⟩)]]) :: xblk ba0_1c0vc0 25 ([.slice Aa0_1c0vc0v_0 a0_1c0vc0v.To.length ca0_1c0vc0v_0, .int .u64 a0_1c0vc0v.Ends, .bool a0_1c0vc0v.Odd, .int .i64 a0_1c0vc0v.Holes]) :: fs) w := hC
         refine does_append (enc := encS) (e := 9) (u := 9) (t := 40) (t2 := 40) (sz := 1) (cp := x101.2) (A := x101.1) (bytes := 16) (xs := (([] : List ByteArray) ++ (t58.take t62.toNat))) (ys := ((t58.drop t78.toNat).take (t58.length - t78.toNat))) (s := (.tmp 51)) (x := (.tmp 54)) (xv := .slice (vA A59 c60 t78.toNat 1) (t58.length - t78.toNat) (c60 - t78.toNat)) (info := infoOf Try.prog 9) (z := zeroOf Try.prog 9) (ycs := ((t58.drop t78.toNat).take (t58.length - t78.toNat)).flatMap encS) hC (by kernel_rfl) (by kernel_rfl) (by kernel_rfl) (by kernel_rfl) (.inl (by kernel_rfl)) (by kernel_rfl) (by kernel_rfl) (by kernel_rfl) (by kernel_rfl) (by kernel_rfl) (by omega) len_encS one_encS (src_rowV' (L := t78.toNat) (n := (t58.length - t78.toNat)) (hC.row 2 rfl) (by omega) len_encS (by omega)) rfl g115 (by omega) ?_
         intro A111 c112 w2 h2
         have h2 := h2.pick4
         have h2 := h2.pick4
         have h2 := h2.pick4
         have h2 := h2.pick4
         have h2 := h2.pick4
         refine ⟨(some b87, some x101, some (A111, c112)), rfl, ?_, ?_, .inr rfl, h2⟩
         ·intro m hne; match m, hne with
          | 0, hne => exact rfl
          | 1, hne => exact rfl
          | 2, hne => exact absurd rfl hne
          | m + 3, _ => exact rfl
         ·intro j hj; match j, hj with
          | 0, hj => exact rfl
          | 1, hj => exact rfl
          | 2, hj => exact rfl
          | 3, hj => exact rfl
          | 4, hj => exact rfl
          | 5, hj => exact rfl
          | 6, hj => exact rfl
          | 7, hj => exact rfl
          | 8, hj => exact absurd (by decide) hj
          | 9, hj => exact absurd (by decide) hj
          | j + 10, _ => exact rfl
        ·exact Bool.noConfusion hr
       | k + 3, hk => exact absurd hk (by simp)
      intro st120 w117 hS118 hr119
      rcases st120 with ⟨_ | b87, _ | x101, _ | x114⟩
      ·exact Bool.noConfusion (hr119 0 (Nat.lt_of_sub_eq_succ rfl))
      ·exact Bool.noConfusion (hr119 0 (Nat.lt_of_sub_eq_succ rfl))
      ·exact Bool.noConfusion (hr119 0 (Nat.lt_of_sub_eq_succ rfl))
      ·exact Bool.noConfusion (hr119 0 (Nat.lt_of_sub_eq_succ rfl))
      ·exact Bool.noConfusion (hr119 1 (Nat.lt_of_sub_eq_succ rfl))
      ·exact Bool.noConfusion (hr119 1 (Nat.lt_of_sub_eq_succ rfl))
      ·exact Bool.noConfusion (hr119 2 (Nat.lt_of_sub_eq_succ rfl))
      replace hS118 : St w0 Z (xrow x114.1 x114.2 9 1 (((([] : List ByteArray) ++ (t58.take t62.toNat)) ++ ((t58.drop t78.toNat).take (t58.length - t78.toNat))).flatMap encS) :: xrow A55 c56 39 3 (t54.flatMap enc_api_Pick) :: xrow A59 c60 9 1 (t58.flatMap encS) :: xblk ba0_1c0 53 ([.func (.func 20) #[] #[.pointer (some ⟨ba0_1c0vc0, 0, none⟩)]]) :: xblk ba0_1c0vc0 25 ([.slice Aa0_1c0vc0v_0 a0_1c0vc0v.To.length ca0_1c0vc0v_0, .int .u64 a0_1c0vc0v.Ends, .bool a0_1c0vc0v.Odd, .int .i64 a0_1c0vc0v.Holes]) :: fs) w117 := hS118
      obtain ⟨g123, hp124⟩ := ite_some hp116
      have hc130 := (hS118.row 1 rfl).cap len_api_Pick (by omega)
      have g131 : 0 ≤ t62 ∧ t62 ≤ (c56 : Int) := by omega
      obtain ⟨g136, hp137⟩ := ite_some hp124
      obtain ⟨g138, hp139⟩ := ite_some hp137
      obtain ⟨g149, hp150⟩ := ite_some hp139
      refine r_drawnP (S := Option Nat × Option (Option Addr × Nat) × Option (Option Addr × Nat)) (dn := (fun (st : Option Nat × Option (Option Addr × Nat) × Option (Option Addr × Nat)) k => [st.1.isSome, st.2.1.isSome, st.2.2.isSome].getD k true)) (C := (fun st w' => match st with | (none, none, none) => St w0 Z (xrow x114.1 x114.2 9 1 (((([] : List ByteArray) ++ (t58.take t62.toNat)) ++ ((t58.drop t78.toNat).take (t58.length - t78.toNat))).flatMap encS) :: xrow A55 c56 39 3 (t54.flatMap enc_api_Pick) :: xrow A59 c60 9 1 (t58.flatMap encS) :: xblk ba0_1c0 53 ([.func (.func 20) #[] #[.pointer (some ⟨ba0_1c0vc0, 0, none⟩)]]) :: xblk ba0_1c0vc0 25 ([.slice Aa0_1c0vc0v_0 a0_1c0vc0v.To.length ca0_1c0vc0v_0, .int .u64 a0_1c0vc0v.Ends, .bool a0_1c0vc0v.Odd, .int .i64 a0_1c0vc0v.Holes]) :: fs) w' | (none, none, some x148) => False | (none, some x135, none) => False | (none, some x135, some x148) => False | (some b121, none, none) => St w0 Z (xrow (some ⟨b121, 0, none⟩) 0 39 3 (([] : List api_Pick).flatMap enc_api_Pick) :: xrow x114.1 x114.2 9 1 (((([] : List ByteArray) ++ (t58.take t62.toNat)) ++ ((t58.drop t78.toNat).take (t58.length - t78.toNat))).flatMap encS) :: xrow A55 c56 39 3 (t54.flatMap enc_api_Pick) :: xrow A59 c60 9 1 (t58.flatMap encS) :: xblk ba0_1c0 53 ([.func (.func 20) #[] #[.pointer (some ⟨ba0_1c0vc0, 0, none⟩)]]) :: xblk ba0_1c0vc0 25 ([.slice Aa0_1c0vc0v_0 a0_1c0vc0v.To.length ca0_1c0vc0v_0, .int .u64 a0_1c0vc0v.Ends, .bool a0_1c0vc0v.Odd, .int .i64 a0_1c0vc0v.Holes]) :: fs) w' | (some b121, none, some x148) => False | (some b121, some x135, none) => St w0 Z (xrow x135.1 x135.2 39 3 ((([] : List api_Pick) ++ (t54.take t62.toNat)).flatMap enc_api_Pick) :: xrow x114.1 x114.2 9 1 (((([] : List ByteArray) ++ (t58.take t62.toNat)) ++ ((t58.drop t78.toNat).take (t58.length - t78.toNat))).flatMap encS) :: xrow A55 c56 39 3 (t54.flatMap enc_api_Pick) :: xrow A59 c60 9 1 (t58.flatMap encS) :: xblk ba0_1c0 53 ([.func (.func 20) #[] #[.pointer (some ⟨ba0_1c0vc0, 0, none⟩)]]) :: xblk ba0_1c0vc0 25 ([.slice Aa0_1c0vc0v_0 a0_1c0vc0v.To.length ca0_1c0vc0v_0, .int .u64 a0_1c0vc0v.Ends, .bool a0_1c0vc0v.Odd, .int .i64 a0_1c0vc0v.Holes]) :: fs) w' | (some b121, some x135, some x148) => St w0 Z (xrow x148.1 x148.2 39 3 (((([] : List api_Pick) ++ (t54.take t62.toNat)) ++ ((t54.drop t78.toNat).take (t54.length - t78.toNat))).flatMap enc_api_Pick) :: xrow x114.1 x114.2 9 1 (((([] : List ByteArray) ++ (t58.take t62.toNat)) ++ ((t58.drop t78.toNat).take (t58.length - t78.toNat))).flatMap encS) :: xrow A55 c56 39 3 (t54.flatMap enc_api_Pick) :: xrow A59 c60 9 1 (t58.flatMap encS) :: xblk ba0_1c0 53 ([.func (.func 20) #[] #[.pointer (some ⟨ba0_1c0vc0, 0, none⟩)]]) :: xblk ba0_1c0vc0 25 ([.slice Aa0_1c0vc0v_0 a0_1c0vc0v.To.length ca0_1c0vc0v_0, .int .u64 a0_1c0vc0v.Ends, .bool a0_1c0vc0v.Odd, .int .i64 a0_1c0vc0v.Holes]) :: fs) w')) (v := (fun st => match st with | (none, none, none) => [undef, .slice A55 t54.length c56, .int .i64 t62, .slice A55 t62.toNat c56, undef, .slice A55 t54.length c56, .int .i64 t78, .slice (vA A55 c56 t78.toNat 3) (t54.length - t78.toNat) (c56 - t78.toNat), undef, undef] | (none, none, some x148) => [undef, .slice A55 t54.length c56, .int .i64 t62, .slice A55 t62.toNat c56, undef, .slice A55 t54.length c56, .int .i64 t78, .slice (vA A55 c56 t78.toNat 3) (t54.length - t78.toNat) (c56 - t78.toNat), undef, undef] | (none, some x135, none) => [undef, .slice A55 t54.length c56, .int .i64 t62, .slice A55 t62.toNat c56, undef, .slice A55 t54.length c56, .int .i64 t78, .slice (vA A55 c56 t78.toNat 3) (t54.length - t78.toNat) (c56 - t78.toNat), undef, undef] | (none, some x135, some x148) => [undef, .slice A55 t54.length c56, .int .i64 t62, .slice A55 t62.toNat c56, undef, .slice A55 t54.length c56, .int .i64 t78, .slice (vA A55 c56 t78.toNat 3) (t54.length - t78.toNat) (c56 - t78.toNat), undef, undef] | (some b121, none, none) => [.slice (some ⟨b121, 0, none⟩) ([] : List api_Pick).length 0, .slice A55 t54.length c56, .int .i64 t62, .slice A55 t62.toNat c56, undef, .slice A55 t54.length c56, .int .i64 t78, .slice (vA A55 c56 t78.toNat 3) (t54.length - t78.toNat) (c56 - t78.toNat), undef, undef] | (some b121, none, some x148) => [.slice (some ⟨b121, 0, none⟩) ([] : List api_Pick).length 0, .slice A55 t54.length c56, .int .i64 t62, .slice A55 t62.toNat c56, undef, .slice A55 t54.length c56, .int .i64 t78, .slice (vA A55 c56 t78.toNat 3) (t54.length - t78.toNat) (c56 - t78.toNat), undef, undef] | (some b121, some x135, none) => [.slice (some ⟨b121, 0, none⟩) ([] : List api_Pick).length 0, .slice A55 t54.length c56, .int .i64 t62, .slice A55 t62.toNat c56, .slice x135.1 (([] : List api_Pick) ++ (t54.take t62.toNat)).length x135.2, .slice A55 t54.length c56, .int .i64 t78, .slice (vA A55 c56 t78.toNat 3) (t54.length - t78.toNat) (c56 - t78.toNat), undef, undef] | (some b121, some x135, some x148) => [.slice (some ⟨b121, 0, none⟩) ([] : List api_Pick).length 0, .slice A55 t54.length c56, .int .i64 t62, .slice A55 t62.toNat c56, .slice x135.1 (([] : List api_Pick) ++ (t54.take t62.toNat)).length x135.2, .slice A55 t54.length c56, .int .i64 t78, .slice (vA A55 c56 t78.toNat 3) (t54.length - t78.toNat) (c56 - t78.toNat), .slice x148.1 ((([] : List api_Pick) ++ (t54.take t62.toNat)) ++ ((t54.drop t78.toNat).take (t54.length - t78.toNat))).length x148.2, .slice x148.1 ((([] : List api_Pick) ++ (t54.take t62.toNat)) ++ ((t54.drop t78.toNat).take (t54.length - t78.toNat))).length x148.2])) (c := (cd19 [1, 1, 1, 0, 1, 0, 0, 1, 0, 0, 1, 1, 1, 0, 1])) (id := 14) (none, none, none) 0 10 [0, 4, 8] [[], [], [], [], [0], [], [], [], [0, 1], [0, 1, 2]] [[1], [], [], [1], [2], [], [], [2], [], []] [9] [true, true, true, true, true, true, true, true, true, true] (by kernel_rfl) (by kernel_rfl) (by kernel_rfl) (by kernel_rfl) (by kernel_rfl) (by kernel_rfl) (by kernel_rfl) (by kernel_rfl) (by kernel_rfl) (fun k hk => match k, hk with | 0, _ => rfl | 1, _ => rfl | 2, _ => rfl | k + 3, hk => absurd hk (by simp)) hS118.drew ?_ (fun k hk => match k, hk with | 0, _ => rfl | 1, _ => rfl | 2, _ => rfl | k + 3, hk => absurd hk (by simp)) ?_ ?_ ?_
      ·intro i hi st w hC hd
       match i, hi with
       | 0, _ => (show _ = _; kernel_rfl)
       | 1, _ => (show _ = _; kernel_rfl)
       | 2, _ => (show _ = _; kernel_rfl)
       | 3, _ => (show _ = _; kernel_rfl)
       | 4, _ => (show _ = _; kernel_rfl)
       | 5, _ => (show _ = _; kernel_rfl)
       | 6, _ => (show _ = _; kernel_rfl)
       | 7, _ => (show _ = _; kernel_rfl)
       | 8, _ => (show _ = _; kernel_rfl)
       | 9, _ => (show _ = _; kernel_rfl)
       | i + 10, hi => exact absurd hi (by omega)
      ·intro i hi he st w hC hd hu
       match i, hi, he with
       | 0, _, he => exact absurd he (by decide)
       | 1, _, _ =>
        rcases st with ⟨_ | b121, _ | x135, _ | x148⟩
        ·replace hC : St w0 Z (xrow x114.1 x114.2 9 1 (((([] : List ByteArray) ++ (t58.take t62.toNat)) ++ ((t58.drop t78.toNat).take (t58.length - t78.toNat))).flatMap encS) :: xrow A55 c56 39 3 (t54.flatMap enc_api_Pick) :: xrow A59 c60 9 1 (t58.flatMap encS) :: xblk ba0_1c0 53 ([.func (.func 20) #[] #[.pointer (some ⟨ba0_1c0vc0, 0, none⟩)]]) :: xblk ba0_1c0vc0 25 ([.slice Aa0_1c0vc0v_0 a0_1c0vc0v.To.length ca0_1c0vc0v_0, .int .u64 a0_1c0vc0v.Ends, .bool a0_1c0vc0v.Odd, .int .i64 a0_1c0vc0v.Holes]) :: fs) w := hC
         exact ⟨fun _ => does_pure (v := .slice A55 t54.length c56) (by kernel_rfl) rfl hC, fun h => absurd h (by decide)⟩
        ·exact False.elim hC
        ·exact False.elim hC
        ·exact False.elim hC
        ·replace hC : St w0 Z (xrow (some ⟨b121, 0, none⟩) 0 39 3 (([] : List api_Pick).flatMap enc_api_Pick) :: xrow x114.1 x114.2 9 1 (((([] : List ByteArray) ++ (t58.take t62.toNat)) ++ ((t58.drop t78.toNat).take (t58.length - t78.toNat))).flatMap encS) :: xrow A55 c56 39 3 (t54.flatMap enc_api_Pick) :: xrow A59 c60 9 1 (t58.flatMap encS) :: xblk ba0_1c0 53 ([.func (.func 20) #[] #[.pointer (some ⟨ba0_1c0vc0, 0, none⟩)]]) :: xblk ba0_1c0vc0 25 ([.slice Aa0_1c0vc0v_0 a0_1c0vc0v.To.length ca0_1c0vc0v_0, .int .u64 a0_1c0vc0v.Ends, .bool a0_1c0vc0v.Odd, .int .i64 a0_1c0vc0v.Holes]) :: fs) w := hC
         exact ⟨fun _ => does_pure (v := .slice A55 t54.length c56) (by kernel_rfl) rfl hC, fun h => absurd h (by decide)⟩
        ·exact False.elim hC
        ·replace hC : St w0 Z (xrow x135.1 x135.2 39 3 ((([] : List api_Pick) ++ (t54.take t62.toNat)).flatMap enc_api_Pick) :: xrow x114.1 x114.2 9 1 (((([] : List ByteArray) ++ (t58.take t62.toNat)) ++ ((t58.drop t78.toNat).take (t58.length - t78.toNat))).flatMap encS) :: xrow A55 c56 39 3 (t54.flatMap enc_api_Pick) :: xrow A59 c60 9 1 (t58.flatMap encS) :: xblk ba0_1c0 53 ([.func (.func 20) #[] #[.pointer (some ⟨ba0_1c0vc0, 0, none⟩)]]) :: xblk ba0_1c0vc0 25 ([.slice Aa0_1c0vc0v_0 a0_1c0vc0v.To.length ca0_1c0vc0v_0, .int .u64 a0_1c0vc0v.Ends, .bool a0_1c0vc0v.Odd, .int .i64 a0_1c0vc0v.Holes]) :: fs) w := hC
         exact ⟨fun _ => does_pure (v := .slice A55 t54.length c56) (by kernel_rfl) rfl hC, fun h => absurd h (by decide)⟩
        ·replace hC : St w0 Z (xrow x148.1 x148.2 39 3 (((([] : List api_Pick) ++ (t54.take t62.toNat)) ++ ((t54.drop t78.toNat).take (t54.length - t78.toNat))).flatMap enc_api_Pick) :: xrow x114.1 x114.2 9 1 (((([] : List ByteArray) ++ (t58.take t62.toNat)) ++ ((t58.drop t78.toNat).take (t58.length - t78.toNat))).flatMap encS) :: xrow A55 c56 39 3 (t54.flatMap enc_api_Pick) :: xrow A59 c60 9 1 (t58.flatMap encS) :: xblk ba0_1c0 53 ([.func (.func 20) #[] #[.pointer (some ⟨ba0_1c0vc0, 0, none⟩)]]) :: xblk ba0_1c0vc0 25 ([.slice Aa0_1c0vc0v_0 a0_1c0vc0v.To.length ca0_1c0vc0v_0, .int .u64 a0_1c0vc0v.Ends, .bool a0_1c0vc0v.Odd, .int .i64 a0_1c0vc0v.Holes]) :: fs) w := hC
         exact ⟨fun _ => does_pure (v := .slice A55 t54.length c56) (by kernel_rfl) rfl hC, fun h => absurd h (by decide)⟩
       | 2, _, _ =>
        rcases st with ⟨_ | b121, _ | x135, _ | x148⟩
        ·replace hC : St w0 Z (xrow x114.1 x114.2 9 1 (((([] : List ByteArray) ++ (t58.take t62.toNat)) ++ ((t58.drop t78.toNat).take (t58.length - t78.toNat))).flatMap encS) :: xrow A55 c56 39 3 (t54.flatMap enc_api_Pick) :: xrow A59 c60 9 1 (t58.flatMap encS) :: xblk ba0_1c0 53 ([.func (.func 20) #[] #[.pointer (some ⟨ba0_1c0vc0, 0, none⟩)]]) :: xblk ba0_1c0vc0 25 ([.slice Aa0_1c0vc0v_0 a0_1c0vc0v.To.length ca0_1c0vc0v_0, .int .u64 a0_1c0vc0v.Ends, .bool a0_1c0vc0v.Odd, .int .i64 a0_1c0vc0v.Holes]) :: fs) w := hC
         exact ⟨fun _ => does_pure (v := .int .i64 t62) (by kernel_rfl) rfl hC, fun h => absurd h (by decide)⟩
        ·exact False.elim hC
        ·exact False.elim hC
        ·exact False.elim hC
        ·replace hC : St w0 Z (xrow (some ⟨b121, 0, none⟩) 0 39 3 (([] : List api_Pick).flatMap enc_api_Pick) :: xrow x114.1 x114.2 9 1 (((([] : List ByteArray) ++ (t58.take t62.toNat)) ++ ((t58.drop t78.toNat).take (t58.length - t78.toNat))).flatMap encS) :: xrow A55 c56 39 3 (t54.flatMap enc_api_Pick) :: xrow A59 c60 9 1 (t58.flatMap encS) :: xblk ba0_1c0 53 ([.func (.func 20) #[] #[.pointer (some ⟨ba0_1c0vc0, 0, none⟩)]]) :: xblk ba0_1c0vc0 25 ([.slice Aa0_1c0vc0v_0 a0_1c0vc0v.To.length ca0_1c0vc0v_0, .int .u64 a0_1c0vc0v.Ends, .bool a0_1c0vc0v.Odd, .int .i64 a0_1c0vc0v.Holes]) :: fs) w := hC
         exact ⟨fun _ => does_pure (v := .int .i64 t62) (by kernel_rfl) rfl hC, fun h => absurd h (by decide)⟩
        ·exact False.elim hC
        ·replace hC : St w0 Z (xrow x135.1 x135.2 39 3 ((([] : List api_Pick) ++ (t54.take t62.toNat)).flatMap enc_api_Pick) :: xrow x114.1 x114.2 9 1 (((([] : List ByteArray) ++ (t58.take t62.toNat)) ++ ((t58.drop t78.toNat).take (t58.length - t78.toNat))).flatMap encS) :: xrow A55 c56 39 3 (t54.flatMap enc_api_Pick) :: xrow A59 c60 9 1 (t58.flatMap encS) :: xblk ba0_1c0 53 ([.func (.func 20) #[] #[.pointer (some ⟨ba0_1c0vc0, 0, none⟩)]]) :: xblk ba0_1c0vc0 25 ([.slice Aa0_1c0vc0v_0 a0_1c0vc0v.To.length ca0_1c0vc0v_0, .int .u64 a0_1c0vc0v.Ends, .bool a0_1c0vc0v.Odd, .int .i64 a0_1c0vc0v.Holes]) :: fs) w := hC
         exact ⟨fun _ => does_pure (v := .int .i64 t62) (by kernel_rfl) rfl hC, fun h => absurd h (by decide)⟩
        ·replace hC : St w0 Z (xrow x148.1 x148.2 39 3 (((([] : List api_Pick) ++ (t54.take t62.toNat)) ++ ((t54.drop t78.toNat).take (t54.length - t78.toNat))).flatMap enc_api_Pick) :: xrow x114.1 x114.2 9 1 (((([] : List ByteArray) ++ (t58.take t62.toNat)) ++ ((t58.drop t78.toNat).take (t58.length - t78.toNat))).flatMap encS) :: xrow A55 c56 39 3 (t54.flatMap enc_api_Pick) :: xrow A59 c60 9 1 (t58.flatMap encS) :: xblk ba0_1c0 53 ([.func (.func 20) #[] #[.pointer (some ⟨ba0_1c0vc0, 0, none⟩)]]) :: xblk ba0_1c0vc0 25 ([.slice Aa0_1c0vc0v_0 a0_1c0vc0v.To.length ca0_1c0vc0v_0, .int .u64 a0_1c0vc0v.Ends, .bool a0_1c0vc0v.Odd, .int .i64 a0_1c0vc0v.Holes]) :: fs) w := hC
         exact ⟨fun _ => does_pure (v := .int .i64 t62) (by kernel_rfl) rfl hC, fun h => absurd h (by decide)⟩
       | 3, _, _ =>
        rcases st with ⟨_ | b121, _ | x135, _ | x148⟩
        ·replace hC : St w0 Z (xrow x114.1 x114.2 9 1 (((([] : List ByteArray) ++ (t58.take t62.toNat)) ++ ((t58.drop t78.toNat).take (t58.length - t78.toNat))).flatMap encS) :: xrow A55 c56 39 3 (t54.flatMap enc_api_Pick) :: xrow A59 c60 9 1 (t58.flatMap encS) :: xblk ba0_1c0 53 ([.func (.func 20) #[] #[.pointer (some ⟨ba0_1c0vc0, 0, none⟩)]]) :: xblk ba0_1c0vc0 25 ([.slice Aa0_1c0vc0v_0 a0_1c0vc0v.To.length ca0_1c0vc0v_0, .int .u64 a0_1c0vc0v.Ends, .bool a0_1c0vc0v.Odd, .int .i64 a0_1c0vc0v.Holes]) :: fs) w := hC
         exact ⟨fun _ => does_run (x_cutSl_nsC (t := 33) (x := (.tmp 57)) (hi := (.tmp 58)) (e := 39) (sz := 3) (A := A55) (n := t54.length) (c := c56) (k := .i64) (by kernel_rfl) (by kernel_rfl) (by kernel_rfl) (by kernel_rfl) g131 cut0 (by kernel_rfl)) rfl hC, fun h => absurd h (by decide)⟩
        ·exact False.elim hC
        ·exact False.elim hC
        ·exact False.elim hC
        ·replace hC : St w0 Z (xrow (some ⟨b121, 0, none⟩) 0 39 3 (([] : List api_Pick).flatMap enc_api_Pick) :: xrow x114.1 x114.2 9 1 (((([] : List ByteArray) ++ (t58.take t62.toNat)) ++ ((t58.drop t78.toNat).take (t58.length - t78.toNat))).flatMap encS) :: xrow A55 c56 39 3 (t54.flatMap enc_api_Pick) :: xrow A59 c60 9 1 (t58.flatMap encS) :: xblk ba0_1c0 53 ([.func (.func 20) #[] #[.pointer (some ⟨ba0_1c0vc0, 0, none⟩)]]) :: xblk ba0_1c0vc0 25 ([.slice Aa0_1c0vc0v_0 a0_1c0vc0v.To.length ca0_1c0vc0v_0, .int .u64 a0_1c0vc0v.Ends, .bool a0_1c0vc0v.Odd, .int .i64 a0_1c0vc0v.Holes]) :: fs) w := hC
         exact ⟨fun _ => does_run (x_cutSl_nsC (t := 33) (x := (.tmp 57)) (hi := (.tmp 58)) (e := 39) (sz := 3) (A := A55) (n := t54.length) (c := c56) (k := .i64) (by kernel_rfl) (by kernel_rfl) (by kernel_rfl) (by kernel_rfl) g131 cut0 (by kernel_rfl)) rfl hC, fun h => absurd h (by decide)⟩
        ·exact False.elim hC
        ·exact Bool.noConfusion (hu 1 (by decide))
        ·exact Bool.noConfusion (hu 1 (by decide))
       | 4, _, he => exact absurd he (by decide)
       | 5, _, _ =>
        rcases st with ⟨_ | b121, _ | x135, _ | x148⟩
        ·replace hC : St w0 Z (xrow x114.1 x114.2 9 1 (((([] : List ByteArray) ++ (t58.take t62.toNat)) ++ ((t58.drop t78.toNat).take (t58.length - t78.toNat))).flatMap encS) :: xrow A55 c56 39 3 (t54.flatMap enc_api_Pick) :: xrow A59 c60 9 1 (t58.flatMap encS) :: xblk ba0_1c0 53 ([.func (.func 20) #[] #[.pointer (some ⟨ba0_1c0vc0, 0, none⟩)]]) :: xblk ba0_1c0vc0 25 ([.slice Aa0_1c0vc0v_0 a0_1c0vc0v.To.length ca0_1c0vc0v_0, .int .u64 a0_1c0vc0v.Ends, .bool a0_1c0vc0v.Odd, .int .i64 a0_1c0vc0v.Holes]) :: fs) w := hC
         exact ⟨fun _ => does_pure (v := .slice A55 t54.length c56) (by kernel_rfl) rfl hC, fun h => absurd h (by decide)⟩
        ·exact False.elim hC
        ·exact False.elim hC
        ·exact False.elim hC
        ·replace hC : St w0 Z (xrow (some ⟨b121, 0, none⟩) 0 39 3 (([] : List api_Pick).flatMap enc_api_Pick) :: xrow x114.1 x114.2 9 1 (((([] : List ByteArray) ++ (t58.take t62.toNat)) ++ ((t58.drop t78.toNat).take (t58.length - t78.toNat))).flatMap encS) :: xrow A55 c56 39 3 (t54.flatMap enc_api_Pick) :: xrow A59 c60 9 1 (t58.flatMap encS) :: xblk ba0_1c0 53 ([.func (.func 20) #[] #[.pointer (some ⟨ba0_1c0vc0, 0, none⟩)]]) :: xblk ba0_1c0vc0 25 ([.slice Aa0_1c0vc0v_0 a0_1c0vc0v.To.length ca0_1c0vc0v_0, .int .u64 a0_1c0vc0v.Ends, .bool a0_1c0vc0v.Odd, .int .i64 a0_1c0vc0v.Holes]) :: fs) w := hC
         exact ⟨fun _ => does_pure (v := .slice A55 t54.length c56) (by kernel_rfl) rfl hC, fun h => absurd h (by decide)⟩
        ·exact False.elim hC
        ·replace hC : St w0 Z (xrow x135.1 x135.2 39 3 ((([] : List api_Pick) ++ (t54.take t62.toNat)).flatMap enc_api_Pick) :: xrow x114.1 x114.2 9 1 (((([] : List ByteArray) ++ (t58.take t62.toNat)) ++ ((t58.drop t78.toNat).take (t58.length - t78.toNat))).flatMap encS) :: xrow A55 c56 39 3 (t54.flatMap enc_api_Pick) :: xrow A59 c60 9 1 (t58.flatMap encS) :: xblk ba0_1c0 53 ([.func (.func 20) #[] #[.pointer (some ⟨ba0_1c0vc0, 0, none⟩)]]) :: xblk ba0_1c0vc0 25 ([.slice Aa0_1c0vc0v_0 a0_1c0vc0v.To.length ca0_1c0vc0v_0, .int .u64 a0_1c0vc0v.Ends, .bool a0_1c0vc0v.Odd, .int .i64 a0_1c0vc0v.Holes]) :: fs) w := hC
         exact ⟨fun _ => does_pure (v := .slice A55 t54.length c56) (by kernel_rfl) rfl hC, fun h => absurd h (by decide)⟩
        ·replace hC : St w0 Z (xrow x148.1 x148.2 39 3 (((([] : List api_Pick) ++ (t54.take t62.toNat)) ++ ((t54.drop t78.toNat).take (t54.length - t78.toNat))).flatMap enc_api_Pick) :: xrow x114.1 x114.2 9 1 (((([] : List ByteArray) ++ (t58.take t62.toNat)) ++ ((t58.drop t78.toNat).take (t58.length - t78.toNat))).flatMap encS) :: xrow A55 c56 39 3 (t54.flatMap enc_api_Pick) :: xrow A59 c60 9 1 (t58.flatMap encS) :: xblk ba0_1c0 53 ([.func (.func 20) #[] #[.pointer (some ⟨ba0_1c0vc0, 0, none⟩)]]) :: xblk ba0_1c0vc0 25 ([.slice Aa0_1c0vc0v_0 a0_1c0vc0v.To.length ca0_1c0vc0v_0, .int .u64 a0_1c0vc0v.Ends, .bool a0_1c0vc0v.Odd, .int .i64 a0_1c0vc0v.Holes]) :: fs) w := hC
         exact ⟨fun _ => does_pure (v := .slice A55 t54.length c56) (by kernel_rfl) rfl hC, fun h => absurd h (by decide)⟩
       | 6, _, _ =>
        rcases st with ⟨_ | b121, _ | x135, _ | x148⟩
        ·replace hC : St w0 Z (xrow x114.1 x114.2 9 1 (((([] : List ByteArray) ++ (t58.take t62.toNat)) ++ ((t58.drop t78.toNat).take (t58.length - t78.toNat))).flatMap encS) :: xrow A55 c56 39 3 (t54.flatMap enc_api_Pick) :: xrow A59 c60 9 1 (t58.flatMap encS) :: xblk ba0_1c0 53 ([.func (.func 20) #[] #[.pointer (some ⟨ba0_1c0vc0, 0, none⟩)]]) :: xblk ba0_1c0vc0 25 ([.slice Aa0_1c0vc0v_0 a0_1c0vc0v.To.length ca0_1c0vc0v_0, .int .u64 a0_1c0vc0v.Ends, .bool a0_1c0vc0v.Odd, .int .i64 a0_1c0vc0v.Holes]) :: fs) w := hC
         exact ⟨fun _ => does_pure (v := .int .i64 t78) (by kernel_rfl) rfl hC, fun h => absurd h (by decide)⟩
        ·exact False.elim hC
        ·exact False.elim hC
        ·exact False.elim hC
        ·replace hC : St w0 Z (xrow (some ⟨b121, 0, none⟩) 0 39 3 (([] : List api_Pick).flatMap enc_api_Pick) :: xrow x114.1 x114.2 9 1 (((([] : List ByteArray) ++ (t58.take t62.toNat)) ++ ((t58.drop t78.toNat).take (t58.length - t78.toNat))).flatMap encS) :: xrow A55 c56 39 3 (t54.flatMap enc_api_Pick) :: xrow A59 c60 9 1 (t58.flatMap encS) :: xblk ba0_1c0 53 ([.func (.func 20) #[] #[.pointer (some ⟨ba0_1c0vc0, 0, none⟩)]]) :: xblk ba0_1c0vc0 25 ([.slice Aa0_1c0vc0v_0 a0_1c0vc0v.To.length ca0_1c0vc0v_0, .int .u64 a0_1c0vc0v.Ends, .bool a0_1c0vc0v.Odd, .int .i64 a0_1c0vc0v.Holes]) :: fs) w := hC
         exact ⟨fun _ => does_pure (v := .int .i64 t78) (by kernel_rfl) rfl hC, fun h => absurd h (by decide)⟩
        ·exact False.elim hC
        ·replace hC : St w0 Z (xrow x135.1 x135.2 39 3 ((([] : List api_Pick) ++ (t54.take t62.toNat)).flatMap enc_api_Pick) :: xrow x114.1 x114.2 9 1 (((([] : List ByteArray) ++ (t58.take t62.toNat)) ++ ((t58.drop t78.toNat).take (t58.length - t78.toNat))).flatMap encS) :: xrow A55 c56 39 3 (t54.flatMap enc_api_Pick) :: xrow A59 c60 9 1 (t58.flatMap encS) :: xblk ba0_1c0 53 ([.func (.func 20) #[] #[.pointer (some ⟨ba0_1c0vc0, 0, none⟩)]]) :: xblk ba0_1c0vc0 25 ([.slice Aa0_1c0vc0v_0 a0_1c0vc0v.To.length ca0_1c0vc0v_0, .int .u64 a0_1c0vc0v.Ends, .bool a0_1c0vc0v.Odd, .int .i64 a0_1c0vc0v.Holes]) :: fs) w := hC
         exact ⟨fun _ => does_pure (v := .int .i64 t78) (by kernel_rfl) rfl hC, fun h => absurd h (by decide)⟩
        ·replace hC : St w0 Z (xrow x148.1 x148.2 39 3 (((([] : List api_Pick) ++ (t54.take t62.toNat)) ++ ((t54.drop t78.toNat).take (t54.length - t78.toNat))).flatMap enc_api_Pick) :: xrow x114.1 x114.2 9 1 (((([] : List ByteArray) ++ (t58.take t62.toNat)) ++ ((t58.drop t78.toNat).take (t58.length - t78.toNat))).flatMap encS) :: xrow A55 c56 39 3 (t54.flatMap enc_api_Pick) :: xrow A59 c60 9 1 (t58.flatMap encS) :: xblk ba0_1c0 53 ([.func (.func 20) #[] #[.pointer (some ⟨ba0_1c0vc0, 0, none⟩)]]) :: xblk ba0_1c0vc0 25 ([.slice Aa0_1c0vc0v_0 a0_1c0vc0v.To.length ca0_1c0vc0v_0, .int .u64 a0_1c0vc0v.Ends, .bool a0_1c0vc0v.Odd, .int .i64 a0_1c0vc0v.Holes]) :: fs) w := hC
         exact ⟨fun _ => does_pure (v := .int .i64 t78) (by kernel_rfl) rfl hC, fun h => absurd h (by decide)⟩
       | 7, _, _ =>
        rcases st with ⟨_ | b121, _ | x135, _ | x148⟩
        ·replace hC : St w0 Z (xrow x114.1 x114.2 9 1 (((([] : List ByteArray) ++ (t58.take t62.toNat)) ++ ((t58.drop t78.toNat).take (t58.length - t78.toNat))).flatMap encS) :: xrow A55 c56 39 3 (t54.flatMap enc_api_Pick) :: xrow A59 c60 9 1 (t58.flatMap encS) :: xblk ba0_1c0 53 ([.func (.func 20) #[] #[.pointer (some ⟨ba0_1c0vc0, 0, none⟩)]]) :: xblk ba0_1c0vc0 25 ([.slice Aa0_1c0vc0v_0 a0_1c0vc0v.To.length ca0_1c0vc0v_0, .int .u64 a0_1c0vc0v.Ends, .bool a0_1c0vc0v.Odd, .int .i64 a0_1c0vc0v.Holes]) :: fs) w := hC
         exact ⟨fun _ => does_run (x_cutSl_sn (t := 33) (x := (.tmp 61)) (lo := (.tmp 62)) (e := 39) (sz := 3) (A := A55) (n := t54.length) (c := c56) (k := .i64) (by kernel_rfl) (by kernel_rfl) (by kernel_rfl) (by kernel_rfl) g138 rfl (by kernel_rfl)) rfl hC, fun h => absurd h (by decide)⟩
        ·exact False.elim hC
        ·exact False.elim hC
        ·exact False.elim hC
        ·replace hC : St w0 Z (xrow (some ⟨b121, 0, none⟩) 0 39 3 (([] : List api_Pick).flatMap enc_api_Pick) :: xrow x114.1 x114.2 9 1 (((([] : List ByteArray) ++ (t58.take t62.toNat)) ++ ((t58.drop t78.toNat).take (t58.length - t78.toNat))).flatMap encS) :: xrow A55 c56 39 3 (t54.flatMap enc_api_Pick) :: xrow A59 c60 9 1 (t58.flatMap encS) :: xblk ba0_1c0 53 ([.func (.func 20) #[] #[.pointer (some ⟨ba0_1c0vc0, 0, none⟩)]]) :: xblk ba0_1c0vc0 25 ([.slice Aa0_1c0vc0v_0 a0_1c0vc0v.To.length ca0_1c0vc0v_0, .int .u64 a0_1c0vc0v.Ends, .bool a0_1c0vc0v.Odd, .int .i64 a0_1c0vc0v.Holes]) :: fs) w := hC
         exact ⟨fun _ => does_run (x_cutSl_sn (t := 33) (x := (.tmp 61)) (lo := (.tmp 62)) (e := 39) (sz := 3) (A := A55) (n := t54.length) (c := c56) (k := .i64) (by kernel_rfl) (by kernel_rfl) (by kernel_rfl) (by kernel_rfl) g138 rfl (by kernel_rfl)) rfl hC, fun h => absurd h (by decide)⟩
        ·exact False.elim hC
        ·replace hC : St w0 Z (xrow x135.1 x135.2 39 3 ((([] : List api_Pick) ++ (t54.take t62.toNat)).flatMap enc_api_Pick) :: xrow x114.1 x114.2 9 1 (((([] : List ByteArray) ++ (t58.take t62.toNat)) ++ ((t58.drop t78.toNat).take (t58.length - t78.toNat))).flatMap encS) :: xrow A55 c56 39 3 (t54.flatMap enc_api_Pick) :: xrow A59 c60 9 1 (t58.flatMap encS) :: xblk ba0_1c0 53 ([.func (.func 20) #[] #[.pointer (some ⟨ba0_1c0vc0, 0, none⟩)]]) :: xblk ba0_1c0vc0 25 ([.slice Aa0_1c0vc0v_0 a0_1c0vc0v.To.length ca0_1c0vc0v_0, .int .u64 a0_1c0vc0v.Ends, .bool a0_1c0vc0v.Odd, .int .i64 a0_1c0vc0v.Holes]) :: fs) w := hC
         exact ⟨fun _ => does_run (x_cutSl_sn (t := 33) (x := (.tmp 61)) (lo := (.tmp 62)) (e := 39) (sz := 3) (A := A55) (n := t54.length) (c := c56) (k := .i64) (by kernel_rfl) (by kernel_rfl) (by kernel_rfl) (by kernel_rfl) g138 rfl (by kernel_rfl)) rfl hC, fun h => absurd h (by decide)⟩
        ·exact Bool.noConfusion (hu 2 (by decide))
       | 8, _, he => exact absurd he (by decide)
       | 9, _, _ =>
        rcases st with ⟨_ | b121, _ | x135, _ | x148⟩
        ·exact Bool.noConfusion (hd 0 (by decide))
        ·exact False.elim hC
        ·exact False.elim hC
        ·exact False.elim hC
        ·exact Bool.noConfusion (hd 1 (by decide))
        ·exact False.elim hC
        ·exact Bool.noConfusion (hd 2 (by decide))
        ·replace hC : St w0 Z (xrow x148.1 x148.2 39 3 (((([] : List api_Pick) ++ (t54.take t62.toNat)) ++ ((t54.drop t78.toNat).take (t54.length - t78.toNat))).flatMap enc_api_Pick) :: xrow x114.1 x114.2 9 1 (((([] : List ByteArray) ++ (t58.take t62.toNat)) ++ ((t58.drop t78.toNat).take (t58.length - t78.toNat))).flatMap encS) :: xrow A55 c56 39 3 (t54.flatMap enc_api_Pick) :: xrow A59 c60 9 1 (t58.flatMap encS) :: xblk ba0_1c0 53 ([.func (.func 20) #[] #[.pointer (some ⟨ba0_1c0vc0, 0, none⟩)]]) :: xblk ba0_1c0vc0 25 ([.slice Aa0_1c0vc0v_0 a0_1c0vc0v.To.length ca0_1c0vc0v_0, .int .u64 a0_1c0vc0v.Ends, .bool a0_1c0vc0v.Odd, .int .i64 a0_1c0vc0v.Holes]) :: fs) w := hC
         exact ⟨fun _ => does_pure (v := .slice x148.1 ((([] : List api_Pick) ++ (t54.take t62.toNat)) ++ ((t54.drop t78.toNat).take (t54.length - t78.toNat))).length x148.2) (by kernel_rfl) rfl hC, fun h => absurd h (by decide)⟩
       | i + 10, hi, _ => exact absurd hi (by omega)
      ·intro k hk st w hC hr hm
       match k, hk with
       | 0, _ =>
        rcases st with ⟨_ | b121, _ | x135, _ | x148⟩
        ·replace hC : St w0 Z (xrow x114.1 x114.2 9 1 (((([] : List ByteArray) ++ (t58.take t62.toNat)) ++ ((t58.drop t78.toNat).take (t58.length - t78.toNat))).flatMap encS) :: xrow A55 c56 39 3 (t54.flatMap enc_api_Pick) :: xrow A59 c60 9 1 (t58.flatMap encS) :: xblk ba0_1c0 53 ([.func (.func 20) #[] #[.pointer (some ⟨ba0_1c0vc0, 0, none⟩)]]) :: xblk ba0_1c0vc0 25 ([.slice Aa0_1c0vc0v_0 a0_1c0vc0v.To.length ca0_1c0vc0v_0, .int .u64 a0_1c0vc0v.Ends, .bool a0_1c0vc0v.Odd, .int .i64 a0_1c0vc0v.Holes]) :: fs) w := hC
         refine does_lit0 (t := 33) (e := 39) (sz := 3) hC (by kernel_rfl) (by kernel_rfl) (by kernel_rfl) ?_
         intro b121 w2 h2
         have h2 := h2.pick5
         have h2 := h2.pick5
         have h2 := h2.pick5
         have h2 := h2.pick5
         have h2 := h2.pick5
         have h2 := h2.pick5
         refine ⟨(some b121, none, none), rfl, ?_, ?_, .inr rfl, h2⟩
         ·intro m hne; match m, hne with
          | 0, hne => exact absurd rfl hne
          | 1, hne => exact rfl
          | 2, hne => exact rfl
          | m + 3, _ => exact rfl
         ·intro j hj; match j, hj with
          | 0, hj => exact absurd (by decide) hj
          | 1, hj => exact rfl
          | 2, hj => exact rfl
          | 3, hj => exact rfl
          | 4, hj => exact absurd (by decide) hj
          | 5, hj => exact rfl
          | 6, hj => exact rfl
          | 7, hj => exact rfl
          | 8, hj => exact absurd (by decide) hj
          | 9, hj => exact absurd (by decide) hj
          | j + 10, _ => exact rfl
        ·exact False.elim hC
        ·exact False.elim hC
        ·exact False.elim hC
        ·exact Bool.noConfusion hr
        ·exact False.elim hC
        ·exact Bool.noConfusion hr
        ·exact Bool.noConfusion hr
       | 1, _ =>
        rcases st with ⟨_ | b121, _ | x135, _ | x148⟩
        ·exact Bool.noConfusion (hm 0 (by decide))
        ·exact False.elim hC
        ·exact False.elim hC
        ·exact False.elim hC
        ·replace hC : St w0 Z (xrow (some ⟨b121, 0, none⟩) 0 39 3 (([] : List api_Pick).flatMap enc_api_Pick) :: xrow x114.1 x114.2 9 1 (((([] : List ByteArray) ++ (t58.take t62.toNat)) ++ ((t58.drop t78.toNat).take (t58.length - t78.toNat))).flatMap encS) :: xrow A55 c56 39 3 (t54.flatMap enc_api_Pick) :: xrow A59 c60 9 1 (t58.flatMap encS) :: xblk ba0_1c0 53 ([.func (.func 20) #[] #[.pointer (some ⟨ba0_1c0vc0, 0, none⟩)]]) :: xblk ba0_1c0vc0 25 ([.slice Aa0_1c0vc0v_0 a0_1c0vc0v.To.length ca0_1c0vc0v_0, .int .u64 a0_1c0vc0v.Ends, .bool a0_1c0vc0v.Odd, .int .i64 a0_1c0vc0v.Holes]) :: fs) w := hC
         refine does_append (enc := enc_api_Pick) (e := 39) (u := 39) (t := 33) (t2 := 33) (sz := 3) (cp := 0) (A := (some ⟨b121, 0, none⟩)) (bytes := 24) (xs := ([] : List api_Pick)) (ys := (t54.take t62.toNat)) (s := (.tmp 56)) (x := (.tmp 59)) (xv := .slice A55 t62.toNat c56) (info := infoOf Try.prog 39) (z := zeroOf Try.prog 39) (ycs := (t54.take t62.toNat).flatMap enc_api_Pick) hC (by kernel_rfl) (by kernel_rfl) (by kernel_rfl) (by kernel_rfl) (.inl (by kernel_rfl)) (by kernel_rfl) (by kernel_rfl) (by kernel_rfl) (by kernel_rfl) (by kernel_rfl) (by omega) len_api_Pick one_api_Pick (src_row0' (hC.row 2 rfl) (by omega) len_api_Pick (by omega)) rfl g136 (by omega) ?_
         intro A132 c133 w2 h2
         have h2 := h2.pick5
         have h2 := h2.pick5
         have h2 := h2.pick5
         have h2 := h2.pick5
         have h2 := h2.pick5
         have h2 := h2.pick5
         refine ⟨(some b121, some (A132, c133), none), rfl, ?_, ?_, .inr rfl, h2⟩
         ·intro m hne; match m, hne with
          | 0, hne => exact rfl
          | 1, hne => exact absurd rfl hne
          | 2, hne => exact rfl
          | m + 3, _ => exact rfl
         ·intro j hj; match j, hj with
          | 0, hj => exact rfl
          | 1, hj => exact rfl
          | 2, hj => exact rfl
          | 3, hj => exact rfl
          | 4, hj => exact absurd (by decide) hj
          | 5, hj => exact rfl
          | 6, hj => exact rfl
          | 7, hj => exact rfl
          | 8, hj => exact absurd (by decide) hj
          | 9, hj => exact absurd (by decide) hj
          | j + 10, _ => exact rfl
        ·exact False.elim hC
        ·exact Bool.noConfusion hr
        ·exact Bool.noConfusion hr
       | 2, _ =>
        rcases st with ⟨_ | b121, _ | x135, _ | x148⟩
        ·exact Bool.noConfusion (hm 0 (by decide))
        ·exact False.elim hC
        ·exact False.elim hC
        ·exact False.elim hC
        ·exact Bool.noConfusion (hm 1 (by decide))
        ·exact False.elim hC
        ·replace hC : St w0 Z (xrow x135.1 x135.2 39 3 ((([] : List api_Pick) ++ (t54.take t62.toNat)).flatMap enc_api_Pick) :: xrow x114.1 x114.2 9 1 (((([] : List ByteArray) ++ (t58.take t62.toNat)) ++ ((t58.drop t78.toNat).take (t58.length - t78.toNat))).flatMap encS) :: xrow A55 c56 39 3 (t54.flatMap enc_api_Pick) :: xrow A59 c60 9 1 (t58.flatMap encS) :: xblk ba0_1c0 53 ([.func (.func 20) #[] #[.pointer (some ⟨ba0_1c0vc0, 0, none⟩)]]) :: xblk ba0_1c0vc0 25 ([.slice Aa0_1c0vc0v_0 a0_1c0vc0v.To.length ca0_1c0vc0v_0, .int .u64 a0_1c0vc0v.Ends, .bool a0_1c0vc0v.Odd, .int .i64 a0_1c0vc0v.Holes]) :: fs) w := hC
         refine does_append (enc := enc_api_Pick) (e := 39) (u := 39) (t := 33) (t2 := 33) (sz := 3) (cp := x135.2) (A := x135.1) (bytes := 24) (xs := (([] : List api_Pick) ++ (t54.take t62.toNat))) (ys := ((t54.drop t78.toNat).take (t54.length - t78.toNat))) (s := (.tmp 60)) (x := (.tmp 63)) (xv := .slice (vA A55 c56 t78.toNat 3) (t54.length - t78.toNat) (c56 - t78.toNat)) (info := infoOf Try.prog 39) (z := zeroOf Try.prog 39) (ycs := ((t54.drop t78.toNat).take (t54.length - t78.toNat)).flatMap enc_api_Pick) hC (by kernel_rfl) (by kernel_rfl) (by kernel_rfl) (by kernel_rfl) (.inl (by kernel_rfl)) (by kernel_rfl) (by kernel_rfl) (by kernel_rfl) (by kernel_rfl) (by kernel_rfl) (by omega) len_api_Pick one_api_Pick (src_rowV' (L := t78.toNat) (n := (t54.length - t78.toNat)) (hC.row 2 rfl) (by omega) len_api_Pick (by omega)) rfl g149 (by omega) ?_
         intro A145 c146 w2 h2
         have h2 := h2.pick5
         have h2 := h2.pick5
         have h2 := h2.pick5
         have h2 := h2.pick5
         have h2 := h2.pick5
         have h2 := h2.pick5
         refine ⟨(some b121, some x135, some (A145, c146)), rfl, ?_, ?_, .inr rfl, h2⟩
         ·intro m hne; match m, hne with
          | 0, hne => exact rfl
          | 1, hne => exact rfl
          | 2, hne => exact absurd rfl hne
          | m + 3, _ => exact rfl
         ·intro j hj; match j, hj with
          | 0, hj => exact rfl
          | 1, hj => exact rfl
          | 2, hj => exact rfl
          | 3, hj => exact rfl
          | 4, hj => exact rfl
          | 5, hj => exact rfl
          | 6, hj => exact rfl
          | 7, hj => exact rfl
          | 8, hj => exact absurd (by decide) hj
          | 9, hj => exact absurd (by decide) hj
          | j + 10, _ => exact rfl
        ·exact Bool.noConfusion hr
       | k + 3, hk => exact absurd hk (by simp)
      intro st154 w151 hS152 hr153
      rcases st154 with ⟨_ | b121, _ | x135, _ | x148⟩
      ·exact Bool.noConfusion (hr153 0 (Nat.lt_of_sub_eq_succ rfl))
      ·exact Bool.noConfusion (hr153 0 (Nat.lt_of_sub_eq_succ rfl))
      ·exact Bool.noConfusion (hr153 0 (Nat.lt_of_sub_eq_succ rfl))
      ·exact Bool.noConfusion (hr153 0 (Nat.lt_of_sub_eq_succ rfl))
      ·exact Bool.noConfusion (hr153 1 (Nat.lt_of_sub_eq_succ rfl))
      ·exact Bool.noConfusion (hr153 1 (Nat.lt_of_sub_eq_succ rfl))
      ·exact Bool.noConfusion (hr153 2 (Nat.lt_of_sub_eq_succ rfl))
      replace hS152 : St w0 Z (xrow x148.1 x148.2 39 3 (((([] : List api_Pick) ++ (t54.take t62.toNat)) ++ ((t54.drop t78.toNat).take (t54.length - t78.toNat))).flatMap enc_api_Pick) :: xrow x114.1 x114.2 9 1 (((([] : List ByteArray) ++ (t58.take t62.toNat)) ++ ((t58.drop t78.toNat).take (t58.length - t78.toNat))).flatMap encS) :: xrow A55 c56 39 3 (t54.flatMap enc_api_Pick) :: xrow A59 c60 9 1 (t58.flatMap encS) :: xblk ba0_1c0 53 ([.func (.func 20) #[] #[.pointer (some ⟨ba0_1c0vc0, 0, none⟩)]]) :: xblk ba0_1c0vc0 25 ([.slice Aa0_1c0vc0v_0 a0_1c0vc0v.To.length ca0_1c0vc0v_0, .int .u64 a0_1c0vc0v.Ends, .bool a0_1c0vc0v.Odd, .int .i64 a0_1c0vc0v.Holes]) :: fs) w151 := hS152
      refine sx_run 6 (todo' := [.inLoop (cd19 [1, 1, 1, 0, 1, 0, 0]), .inBlock 0, .code (cd19 [1, 1, 1, 1])]) (us := [(23, .int .i64 t62), (24, .int .i64 (IntKind.i64.wrap (t62 + 1))), (7, .int .i64 (IntKind.i64.wrap (t62 + 1)))]) (by kernel_rfl) ?_
      have hS155 := hS152.pick2
      have hS156 := hS155.drop
      have hS157 := hS156.pick2
      have hS158 := hS157.drop
      refine sx_run 1 (todo' := [.code (cd19 [1, 1, 1, 0, 1, 0, 0]), .inLoop (cd19 [1, 1, 1, 0, 1, 0, 0]), .inBlock 0, .code (cd19 [1, 1, 1, 1])]) (us := []) (by kernel_rfl) ?_
      refine Runs.fill (m := [none, some (.slice x148.1 ((([] : List api_Pick) ++ (t54.take t62.toNat)) ++ ((t54.drop t78.toNat).take (t54.length - t78.toNat))).length x148.2), none, none, none, some (.slice x114.1 ((([] : List ByteArray) ++ (t58.take t62.toNat)) ++ ((t58.drop t78.toNat).take (t58.length - t78.toNat))).length x114.2), none, some (.int .i64 (IntKind.i64.wrap (t62 + 1))), none, none, none, none, none, none, none, none, none, none, none, none, none, none, none, none, none, none, none, none, none, none, none, none, none, none, none, none, none, none, none, none, none, none, none, none, none, none, none, none, none, none, none, none, none, none, none, none, none, none, none, none, none, none, none, none, none, none]) (by kernel_rfl) ?_
      exact ih69 ((([] : List api_Pick) ++ (t54.take t62.toNat)) ++ ((t54.drop t78.toNat).take (t54.length - t78.toNat))) ((([] : List ByteArray) ++ (t58.take t62.toNat)) ++ ((t58.drop t78.toNat).take (t58.length - t78.toNat))) (IntKind.i64.wrap (t62 + 1)) _ hp150 he67 _ x148.1 x148.2 x114.1 x114.2 _ hS158
     ·skip
      have hp159 := ite_f hp77 h85
      refine sx_run 9 (todo' := [.inLoop (cd19 [1, 1, 1, 0, 1, 0, 0]), .inBlock 0, .code (cd19 [1, 1, 1, 1])]) (us := [(23, .int .i64 t62), (24, .int .i64 (IntKind.i64.wrap (t62 + 1))), (7, .int .i64 (IntKind.i64.wrap (t62 + 1)))]) (by kernel_rfl) ?_
      refine sx_run 1 (todo' := [.code (cd19 [1, 1, 1, 0, 1, 0, 0]), .inLoop (cd19 [1, 1, 1, 0, 1, 0, 0]), .inBlock 0, .code (cd19 [1, 1, 1, 1])]) (us := []) (by kernel_rfl) ?_
      refine Runs.fill (m := [none, some (.slice A55 t54.length c56), none, none, none, some (.slice A59 t58.length c60), none, some (.int .i64 (IntKind.i64.wrap (t62 + 1))), none, none, none, none, none, none, none, none, none, none, none, none, none, none, none, none, none, none, none, none, none, none, none, none, none, none, none, none, none, none, none, none, none, none, none, none, none, none, none, none, none, none, none, none, none, none, none, none, none, none, none, none, none, none, none, none, none, none]) (by kernel_rfl) ?_
      exact ih69 t54 t58 (IntKind.i64.wrap (t62 + 1)) _ hp159 he67 _ A55 c56 A59 c60 _ hS80
    have L170 : ∀ (t160 : Int) (t161 : Int) (e165 : Int), weirref15_Straight.l1 t58 t62 t160 t161 = some e165 → e165 = v75 → ∀ (l164 : List Value) (w162 : World) (hS163 : St w0 Z (xrow A55 c56 39 3 (t54.flatMap enc_api_Pick) :: xrow A59 c60 9 1 (t58.flatMap encS) :: xblk ba0_1c0 53 ([.func (.func 20) #[] #[.pointer (some ⟨ba0_1c0vc0, 0, none⟩)]]) :: xblk ba0_1c0vc0 25 ([.slice Aa0_1c0vc0v_0 a0_1c0vc0v.To.length ca0_1c0vc0v_0, .int .u64 a0_1c0vc0v.Ends, .bool a0_1c0vc0v.Odd, .int .i64 a0_1c0vc0v.Holes]) :: fs) w162), Runs Try.prog 19 [.code (cd19 [1, 1, 1, 0, 1, 0, 0, 1, 0, 0, 1, 0, 1, 0, 0]), .inLoop (cd19 [1, 1, 1, 0, 1, 0, 0, 1, 0, 0, 1, 0, 1, 0, 0]), .inBlock 2, .code (cd19 [1, 1, 1, 0, 1, 0, 0, 1, 0, 0, 1, 1]), .inBlock 1, .code (cd19 [1, 1, 1, 0, 1, 0, 0, 1, 1]), .inLoop (cd19 [1, 1, 1, 0, 1, 0, 0]), .inBlock 0, .code (cd19 [1, 1, 1, 1])] (fill [none, some (.slice A55 t54.length c56), none, none, none, some (.slice A59 t58.length c60), none, some (.int .i64 t62), some (.int .i64 t160), some (.int .i64 t161), none, none, none, none, none, none, none, none, none, none, none, none, none, none, none, none, none, none, none, none, none, none, none, none, none, none, none, none, none, none, none, none, none, none, none, none, none, none, none, none, none, none, none, none, none, none, none, none, none, none, none, none, none, none, none, none] l164) w162 R := by
     refine weirref15_Straight.l1.partial_correctness t58 t62 (fun t160 t161 e165 => e165 = v75 → ∀ (l164 : List Value) (w162 : World) (hS163 : St w0 Z (xrow A55 c56 39 3 (t54.flatMap enc_api_Pick) :: xrow A59 c60 9 1 (t58.flatMap encS) :: xblk ba0_1c0 53 ([.func (.func 20) #[] #[.pointer (some ⟨ba0_1c0vc0, 0, none⟩)]]) :: xblk ba0_1c0vc0 25 ([.slice Aa0_1c0vc0v_0 a0_1c0vc0v.To.length ca0_1c0vc0v_0, .int .u64 a0_1c0vc0v.Ends, .bool a0_1c0vc0v.Odd, .int .i64 a0_1c0vc0v.Holes]) :: fs) w162), Runs Try.prog 19 [.code (cd19 [1, 1, 1, 0, 1, 0, 0, 1, 0, 0, 1, 0, 1, 0, 0]), .inLoop (cd19 [1, 1, 1, 0, 1, 0, 0, 1, 0, 0, 1, 0, 1, 0, 0]), .inBlock 2, .code (cd19 [1, 1, 1, 0, 1, 0, 0, 1, 0, 0, 1, 1]), .inBlock 1, .code (cd19 [1, 1, 1, 0, 1, 0, 0, 1, 1]), .inLoop (cd19 [1, 1, 1, 0, 1, 0, 0]), .inBlock 0, .code (cd19 [1, 1, 1, 1])] (fill [none, some (.slice A55 t54.length c56), none, none, none, some (.slice A59 t58.length c60), none, some (.int .i64 t62), some (.int .i64 t160), some (.int .i64 t161), none, none, none, none, none, none, none, none, none, none, none, none, none, none, none, none, none, none, none, none, none, none, none, none, none, none, none, none, none, none, none, none, none, none, none, none, none, none, none, none, none, none, none, none, none, none, none, none, none, none, none, none, none, none, none, none] l164) w162 R) ?_
     intro rec169 ih168 t160 t161 e165 hb167 he166 l164 w162 hS163
     refine sx_split 7 (todo' := [.inRegion (opsOf (cd19 [1, 1, 1, 0, 1, 0, 0, 1, 0, 0, 1, 0, 1, 0, 0, 0, 0])) [], .code (cd19 [1, 1, 1, 0, 1, 0, 0, 1, 0, 0, 1, 0, 1, 0, 0, 0, 1]), .code (cd19 [1, 1, 1, 0, 1, 0, 0, 1, 0, 0, 1, 0, 1, 0, 0, 1]), .inLoop (cd19 [1, 1, 1, 0, 1, 0, 0, 1, 0, 0, 1, 0, 1, 0, 0]), .inBlock 2, .code (cd19 [1, 1, 1, 0, 1, 0, 0, 1, 0, 0, 1, 1]), .inBlock 1, .code (cd19 [1, 1, 1, 0, 1, 0, 0, 1, 1]), .inLoop (cd19 [1, 1, 1, 0, 1, 0, 0]), .inBlock 0, .code (cd19 [1, 1, 1, 1])]) (us := [(28, .int .i64 t161), (29, .slice A59 t58.length c60), (30, .int .i64 (t58.length : Int))]) (d := 31) (t := (decide (t161 < (t58.length : Int)))) (by kernel_rfl) (fun h171 => ?_) (fun h172 => ?_)
     ·skip
      have hp173 := ite_t hb167 h171
      refine sx_run 6 (todo' := [.code (cd19 [1, 1, 1, 0, 1, 0, 0, 1, 0, 0, 1, 0, 1, 0, 0, 1, 0, 0, 0]), .code (cd19 [1, 1, 1, 0, 1, 0, 0, 1, 0, 0, 1, 0, 1, 0, 0, 1, 0, 0, 1]), .inBlock 3, .code (cd19 [1, 1, 1, 0, 1, 0, 0, 1, 0, 0, 1, 0, 1, 0, 0, 1, 1]), .inLoop (cd19 [1, 1, 1, 0, 1, 0, 0, 1, 0, 0, 1, 0, 1, 0, 0]), .inBlock 2, .code (cd19 [1, 1, 1, 0, 1, 0, 0, 1, 0, 0, 1, 1]), .inBlock 1, .code (cd19 [1, 1, 1, 0, 1, 0, 0, 1, 1]), .inLoop (cd19 [1, 1, 1, 0, 1, 0, 0]), .inBlock 0, .code (cd19 [1, 1, 1, 1])]) (us := []) (by kernel_rfl) ?_
      refine r_quiet hS163 (c := (cd19 [1, 1, 1, 0, 1, 0, 0, 1, 0, 0, 1, 0, 1, 0, 0, 1, 0, 0, 0])) (id := 10) (by kernel_rfl) (by kernel_rfl) (by kernel_rfl) (is := [0, 1, 2, 3, 4, 5, 6, 7, 8]) (by kernel_rfl) ?_
      refine q_run 2 (is' := [2, 3, 4, 5, 6, 7, 8]) (us := [(34, .slice A59 t58.length c60), (35, .int .i64 t161)]) (by kernel_rfl) ?_
      obtain ⟨g174, hp175⟩ := ite_some hp173
      obtain ⟨b176, p177, hA178, -⟩ := (hS163.row 1 rfl).at_ len_encS (by omega) g174.1 g174.2
      refine q_indexAddr (c := (cd19 [1, 1, 1, 0, 1, 0, 0, 1, 0, 0, 1, 0, 1, 0, 0, 1, 0, 0, 0])) (i := 2) (d := (some 36)) (ty := 0) (t := 40) (e := 9) (n := t58.length) (cp := c60) (sz := 1) (kk := .i64) (x := (.tmp 34)) (y := (.tmp 35)) (b := b176) (o' := p177) (j := t161) (by kernel_rfl) (by kernel_rfl) (slv (by kernel_rfl) hA178) (by kernel_rfl) (by kernel_rfl) (by kernel_rfl) g174.1 g174.2 ?_
      refine q_load (c := (cd19 [1, 1, 1, 0, 1, 0, 0, 1, 0, 0, 1, 0, 1, 0, 0, 1, 0, 0, 0])) (i := 3) (d := (some 37)) (ty := 9) (t := 9) (x := (.tmp 36)) (p := ⟨b176, p177 + t161.toNat * 1, none⟩) (v := .string (gt t58 t161)) (by kernel_rfl) (by kernel_rfl) (by kernel_rfl) (fun w hC => (loads_at 0 ((hC.row 1 rfl).at2 hA178 len_encS (by omega) g174.1 g174.2) (by kernel_rfl) (by kernel_rfl))) ?_
      refine q_run 2 (is' := [6, 7, 8]) (us := [(38, .slice A59 t58.length c60), (39, .int .i64 t62)]) (by kernel_rfl) ?_
      obtain ⟨g180, hp181⟩ := ite_some hp175
      obtain ⟨b182, p183, hA184, -⟩ := (hS163.row 1 rfl).at_ len_encS (by omega) g180.1 g180.2
      refine q_indexAddr (c := (cd19 [1, 1, 1, 0, 1, 0, 0, 1, 0, 0, 1, 0, 1, 0, 0, 1, 0, 0, 0])) (i := 6) (d := (some 40)) (ty := 0) (t := 40) (e := 9) (n := t58.length) (cp := c60) (sz := 1) (kk := .i64) (x := (.tmp 38)) (y := (.tmp 39)) (b := b182) (o' := p183) (j := t62) (by kernel_rfl) (by kernel_rfl) (slv (by kernel_rfl) hA184) (by kernel_rfl) (by kernel_rfl) (by kernel_rfl) g180.1 g180.2 ?_
      refine q_load (c := (cd19 [1, 1, 1, 0, 1, 0, 0, 1, 0, 0, 1, 0, 1, 0, 0, 1, 0, 0, 0])) (i := 7) (d := (some 41)) (ty := 9) (t := 9) (x := (.tmp 40)) (p := ⟨b182, p183 + t62.toNat * 1, none⟩) (v := .string (gt t58 t62)) (by kernel_rfl) (by kernel_rfl) (by kernel_rfl) (fun w hC => (loads_at 0 ((hC.row 1 rfl).at2 hA184 len_encS (by omega) g180.1 g180.2) (by kernel_rfl) (by kernel_rfl))) ?_
      refine q_splitr 1 (is' := []) (us := []) (d := 42) (t := (seq (gt t58 t161) (gt t58 t62))) (by kernel_rfl) (fun h186 => ?_) (fun h187 => ?_)
      ·skip
       have hp188 := ite_t hp181 h186
       refine Qs.nil ?_
       intro w189 hS190
       refine sx_run 11 (todo' := [.inLoop (cd19 [1, 1, 1, 0, 1, 0, 0, 1, 0, 0, 1, 0, 1, 0, 0]), .inBlock 2, .code (cd19 [1, 1, 1, 0, 1, 0, 0, 1, 0, 0, 1, 1]), .inBlock 1, .code (cd19 [1, 1, 1, 0, 1, 0, 0, 1, 1]), .inLoop (cd19 [1, 1, 1, 0, 1, 0, 0]), .inBlock 0, .code (cd19 [1, 1, 1, 1])]) (us := [(43, .int .i64 t161), (8, .int .i64 t161), (32, .int .i64 t161), (33, .int .i64 (IntKind.i64.wrap (t161 + 1))), (9, .int .i64 (IntKind.i64.wrap (t161 + 1)))]) (by kernel_rfl) ?_
       refine sx_run 1 (todo' := [.code (cd19 [1, 1, 1, 0, 1, 0, 0, 1, 0, 0, 1, 0, 1, 0, 0]), .inLoop (cd19 [1, 1, 1, 0, 1, 0, 0, 1, 0, 0, 1, 0, 1, 0, 0]), .inBlock 2, .code (cd19 [1, 1, 1, 0, 1, 0, 0, 1, 0, 0, 1, 1]), .inBlock 1, .code (cd19 [1, 1, 1, 0, 1, 0, 0, 1, 1]), .inLoop (cd19 [1, 1, 1, 0, 1, 0, 0]), .inBlock 0, .code (cd19 [1, 1, 1, 1])]) (us := []) (by kernel_rfl) ?_
       refine Runs.fill (m := [none, some (.slice A55 t54.length c56), none, none, none, some (.slice A59 t58.length c60), none, some (.int .i64 t62), some (.int .i64 t161), some (.int .i64 (IntKind.i64.wrap (t161 + 1))), none, none, none, none, none, none, none, none, none, none, none, none, none, none, none, none, none, none, none, none, none, none, none, none, none, none, none, none, none, none, none, none, none, none, none, none, none, none, none, none, none, none, none, none, none, none, none, none, none, none, none, none, none, none, none, none]) (by kernel_rfl) ?_
       exact ih168 t161 (IntKind.i64.wrap (t161 + 1)) _ hp188 he166 _ _ hS190
      ·skip
       have hp191 := ite_f hp181 h187
       refine Qs.nil ?_
       intro w192 hS193
       refine sx_run 8 (todo' := [.inLoop (cd19 [1, 1, 1, 0, 1, 0, 0, 1, 0, 0, 1, 0, 1, 0, 0]), .inBlock 2, .code (cd19 [1, 1, 1, 0, 1, 0, 0, 1, 0, 0, 1, 1]), .inBlock 1, .code (cd19 [1, 1, 1, 0, 1, 0, 0, 1, 1]), .inLoop (cd19 [1, 1, 1, 0, 1, 0, 0]), .inBlock 0, .code (cd19 [1, 1, 1, 1])]) (us := [(32, .int .i64 t161), (33, .int .i64 (IntKind.i64.wrap (t161 + 1))), (9, .int .i64 (IntKind.i64.wrap (t161 + 1)))]) (by kernel_rfl) ?_
       refine sx_run 1 (todo' := [.code (cd19 [1, 1, 1, 0, 1, 0, 0, 1, 0, 0, 1, 0, 1, 0, 0]), .inLoop (cd19 [1, 1, 1, 0, 1, 0, 0, 1, 0, 0, 1, 0, 1, 0, 0]), .inBlock 2, .code (cd19 [1, 1, 1, 0, 1, 0, 0, 1, 0, 0, 1, 1]), .inBlock 1, .code (cd19 [1, 1, 1, 0, 1, 0, 0, 1, 1]), .inLoop (cd19 [1, 1, 1, 0, 1, 0, 0]), .inBlock 0, .code (cd19 [1, 1, 1, 1])]) (us := []) (by kernel_rfl) ?_
       refine Runs.fill (m := [none, some (.slice A55 t54.length c56), none, none, none, some (.slice A59 t58.length c60), none, some (.int .i64 t62), some (.int .i64 t160), some (.int .i64 (IntKind.i64.wrap (t161 + 1))), none, none, none, none, none, none, none, none, none, none, none, none, none, none, none, none, none, none, none, none, none, none, none, none, none, none, none, none, none, none, none, none, none, none, none, none, none, none, none, none, none, none, none, none, none, none, none, none, none, none, none, none, none, none, none, none]) (by kernel_rfl) ?_
       exact ih168 t160 (IntKind.i64.wrap (t161 + 1)) _ hp191 he166 _ _ hS193
     ·skip
      have hp194 := ite_f hb167 h172
      refine sx_run 3 (todo' := [.code (cd19 [1, 1, 1, 0, 1, 0, 0, 1, 0, 0, 1, 1]), .inBlock 1, .code (cd19 [1, 1, 1, 0, 1, 0, 0, 1, 1]), .inLoop (cd19 [1, 1, 1, 0, 1, 0, 0]), .inBlock 0, .code (cd19 [1, 1, 1, 1])]) (us := []) (by kernel_rfl) ?_
      refine Runs.fill (m := [none, some (.slice A55 t54.length c56), none, none, none, some (.slice A59 t58.length c60), none, some (.int .i64 t62), some (.int .i64 t160), none, none, none, none, none, none, none, none, none, none, none, none, none, none, none, none, none, none, none, none, none, none, none, none, none, none, none, none, none, none, none, none, none, none, none, none, none, none, none, none, none, none, none, none, none, none, none, none, none, none, none, none, none, none, none, none, none]) (by kernel_rfl) ?_
      exact J81 t160 ((Option.some.inj hp194).trans he166) _ _ hS163
    refine Runs.fill (m := [none, some (.slice A55 t54.length c56), none, none, none, some (.slice A59 t58.length c60), none, some (.int .i64 t62), some (.int .i64 t62), some (.int .i64 (IntKind.i64.wrap (t62 + 1))), none, none, none, none, none, none, none, none, none, none, none, none, none, none, none, none, none, none, none, none, none, none, none, none, none, none, none, none, none, none, none, none, none, none, none, none, none, none, none, none, none, none, none, none, none, none, none, none, none, none, none, none, none, none, none, none]) (by kernel_rfl) ?_
    exact L170 t62 (IntKind.i64.wrap (t62 + 1)) _ hv76 rfl _ _ hS64
   ·skip
    have hp195 := ite_f hb68 h73
    refine sx_run 3 (todo' := [.code (cd19 [1, 1, 1, 1])]) (us := []) (by kernel_rfl) ?_
    have hS196 := hS64.pick1
    have hS197 := hS196.drop
    refine Runs.fill (m := [none, some (.slice A55 t54.length c56), none, none, none, none, none, none, none, none, none, none, none, none, none, none, none, none, none, none, none, none, none, none, none, none, none, none, none, none, none, none, none, none, none, none, none, none, none, none, none, none, none, none, none, none, none, none, none, none, none, none, none, none, none, none, none, none, none, none, none, none, none, none, none, none]) (by kernel_rfl) ?_
    exact J50 t54 ((Option.some.inj hp195).trans he67) _ A55 c56 _ hS197
  refine Runs.fill (m := [none, some (.slice Q6 t5.length Q7), none, none, none, some (.slice Q18 t16.length Q19), none, some (.int .i64 0), none, none, none, none, none, none, none, none, none, none, none, none, none, none, none, none, none, none, none, none, none, none, none, none, none, none, none, none, none, none, none, none, none, none, none, none, none, none, none, none, none, none, none, none, none, none, none, none, none, none, none, none, none, none, none, none, none, none]) (by kernel_rfl) ?_
  exact L71 t5 t16 0 _ hv42 rfl _ Q6 Q7 Q18 Q19 _ hS40

end
end Go.Proofs.Ytpmemdhgcelkoaa.K
